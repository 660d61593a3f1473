/- The reference's search for what a query visits: memory and walk. -/
import Derived.Test.YtkfhopnolflchaaRvp
namespace Go.Proofs.Ytkfhopnolflchaa
open Go.RowKit Go.Dfl Go.And

theorem src_two {α : Type} [Inhabited α] (f : α → Value) {w : World} {B : Nat} {x y : α} (h : w.cell? ⟨B, 0, none⟩ = some (f x)) (h2 : w.cell? ⟨B, 1, none⟩ = some (f y)) : Src f w (.slice (some ⟨B, 0, none⟩) 2 2) [x, y] :=
  ⟨_, _, rfl, by simp, fun j hj => ⟨_, rfl, by
    have h3 : j = 0 ∨ j = 1 := by simp at hj; omega
    rcases h3 with rfl | rfl
    · simpa [Addr.add, nth] using h
    · simpa [Addr.add, nth] using h2⟩⟩
theorem own_one {α : Type} (f : α → Value) {w : World} {base : Nat} {e : TypeId} {B : Nat} (x : α) (h : B = w.heap.size) (hb : base ≤ w.heap.size) : Own f (w.alloc (.cells #[f x] e)) base e (.slice (some ⟨B, 0, none⟩) 1 1) [x] := by
  subst h
  exact World.ownsRow_lit (size := 1) w #[f x] 1 hb (by unfold maxLen; omega) rfl

/-- The memory of the search. -/
structure RvM (s : Sy) (cv : Value) (bs : Nat) (va : Option Addr) (vc : Nat) (vl : List Bool) (S : Syst) (W0 W : World) : Prop where
  box : BoxS W bs s cv
  own : Own Value.bool W (bs + 1) 4 (.slice va S.vars vc) vl
  bel : Below bs W0 W
  lv : vl.length = S.vars
section
variable {s : Sy} {cv : Value} {bs : Nat} {va : Option Addr} {vc : Nat} {vl : List Bool} {S : Syst} {W0 W W' : World}
theorem RvM.lt (h : RvM s cv bs va vc vl S W0 W) : bs < W.heap.size := World.block_lt_of_cell? W _ h.box.1
theorem RvM.grown (h : RvM s cv bs va vc vl S W0 W) {row : Option Nat} (hg : W.grownBy W' row) (hr : ∀ k, row = some k → bs < k ∧ (Value.slice va S.vars vc).ownBlock ≠ some k) : RvM s cv bs va vc vl S W0 W' := by
  have hlt := h.lt
  refine ⟨h.box.grown hg fun e => ?_, h.own.grown hg ?_, h.bel.grown hg (by omega) fun k e => by have := (hr k e).1; omega, h.lv⟩
  · have := (hr bs e.symm).1; omega
  · cases e : (Value.slice va S.vars vc).ownBlock with
    | none => exact .inl rfl
    | some k => exact .inr fun e2 => (hr k e2.symm).2 e
theorem RvM.keep (h : RvM s cv bs va vc vl S W0 W) (hg : W.grownBy W' none) : RvM s cv bs va vc vl S W0 W' := h.grown hg (by simp)
theorem RvM.ob (h : RvM s cv bs va vc vl S W0 W) {x : Nat} (hx : x < S.vars) : (Value.slice va S.vars vc).ownBlock = some (blk va) ∧ bs < blk va ∧ blk va < W.heap.size := by
  have hob := own_block h.own (x := x) (by rw [h.lv]; exact hx)
  have h2 := h.own.lt _ hob
  exact ⟨hob, by omega, h2.2⟩
theorem RvM.set (h : RvM s cv bs va vc vl S W0 W) {x : Nat} (hx : x < S.vars) : RvM s cv bs va vc (vl.set x true) S W0 (W.setCell ⟨blk va, ofs va + x, none⟩ (.bool true)) := by
  obtain ⟨-, b2, -⟩ := h.ob hx
  have hlt := h.lt
  have hg := grownBy_setCell W ⟨blk va, ofs va + x, none⟩ (.bool true)
  have e1 : some bs ≠ some (⟨blk va, ofs va + x, none⟩ : Addr).block := fun e => by
    have e2 : bs = blk va := Option.some.inj e
    omega
  have e3 : ∀ k, some (⟨blk va, ofs va + x, none⟩ : Addr).block = some k → bs ≤ k := fun k e => by
    have e2 : blk va = k := Option.some.inj e
    omega
  exact ⟨h.box.grown hg e1, h.own.set x true, h.bel.grown hg (by omega) e3, by rw [List.length_set]; exact h.lv⟩
theorem RvM.rd (h : RvM s cv bs va vc vl S W0 W) : (∀ (k : IntKind) (x : Int), 0 ≤ x → x < S.vars → ∀ Z, (Instr.indexAt 49 (.slice va S.vars vc) (.int k x)).run Try.prog Z = .ok (.pointer (some ⟨blk va, ofs va + x.toNat, none⟩)) Z) ∧
    ∀ x, x < S.vars → W.cell? ⟨blk va, ofs va + x, none⟩ = some (.bool (nth vl x)) ∧ W.frozen? ⟨blk va, ofs va + x, none⟩ = false := by
  obtain ⟨a, c, e, hm, i1, d1, -⟩ := h.own.lst.out1 sBoolD
  simp only [Value.slice.injEq] at e
  obtain ⟨rfl, -, rfl⟩ := e
  rw [h.lv] at i1 d1
  refine ⟨i1, fun x hx => ⟨d1 x hx, ?_⟩⟩
  exact h.own.frozen (by rw [h.lv]; omega) _
theorem RvM.start {t : TypeId} (ho : Own Value.bool W' (W.alloc (.cells #[.int .i64 s.vars, .int .i64 s.sites, .int .i64 s.fields, cv] t)).heap.size 4 (.slice va S.vars vc) (List.replicate S.vars false))
    (hb : Below (W.alloc (.cells #[.int .i64 s.vars, .int .i64 s.sites, .int .i64 s.fields, cv] t)).heap.size (W.alloc (.cells #[.int .i64 s.vars, .int .i64 s.sites, .int .i64 s.fields, cv] t)) W') : RvM s cv W.heap.size va vc (List.replicate S.vars false) S W W' := by
  rw [World.size_alloc] at ho
  refine ⟨(BoxS.new W s cv t).grown (grownBy_below hb) (by simp), ho, ?_, by simp⟩
  have h1 : Below W.heap.size W (W.alloc (.cells #[.int .i64 s.vars, .int .i64 s.sites, .int .i64 s.fields, cv] t)) := (Below.refl _ _).alloc (Nat.le_refl _) _
  exact h1.trans (hb.mono (by simp))
end

/-- What is gathered of the list of a constraint. -/
def ldK (t3 : Bool) (S : Syst) (c : C) (k : Nat) : List Nat := if t3 then ldL S c k else [c.a]
theorem ldK_len (t3 : Bool) (S : Syst) (c : C) (k : Nat) : (ldK t3 S c k).length ≤ 1 + 2 * S.cons.length := by
  unfold ldK; split
  · exact ldL_len _ _ _
  · simp

theorem lsOf_K {t3 : Bool} {S : Syst} {n i ck a b f : Nat} {l : List Nat} (hn : S.cons.length = n) (h : t3 = true ↔ ck = 3) (hc : (⟨ck, a, b, f, l⟩ : C) = nth S.cons i) : LsOf S (nth S.cons i) (ldK t3 S (nth S.cons i) n) := by
  subst hn
  have hk : ck = (nth S.cons i).k := by rw [← hc]
  cases t3
  · exact lsOf_one fun e => by have := h.2 (hk.trans e); cases this
  · exact lsOf_ld (hk.symm.trans (h.1 rfl))
theorem lsOf_one' {S : Syst} {k i ck a b f : Nat} {l : List Nat} (h : false = true ↔ ck = 3) (hc : (⟨ck, a, b, f, l⟩ : C) = nth S.cons i) : LsOf S (nth S.cons i) (ldK false S (nth S.cons i) k) := by
  have hk : ck = (nth S.cons i).k := by rw [← hc]
  exact lsOf_one fun e => by have := h.2 (hk.trans e); cases this

def RvR (S : Syst) (v : Nat) (W : World) (e : Ending) (W' : World) : Prop := ∃ va vc vl, e = .returned (.slice va S.vars vc) ∧ Lst Value.bool W' (.slice va S.vars vc) vl ∧ IsVis S v vl ∧ Below W.heap.size W W'
set_option maxHeartbeats 6400000 in
set_option maxRecDepth 100000 in
theorem rVisited_any (s : Sy) (cv : Value) (v : Nat) (W : World) (hc : ConsIn W cv s.cons) (hs : Sm s) (hv : Vld s) (hn : v < s.S.vars) :
    Calls Try.prog 28 #[SysV s cv, .int .i64 (v : Int)] W (RvR s.S v W) := by
  obtain ⟨ca, cc, rfl, hlen, hci, hcc⟩ := hc.out
  have hcn := hs.cons
  have es : s.vars = (s.S.vars : Int) := (Int.toNat_of_nonneg hv.vars).symm
  have hsv : s.S.vars ≤ 40 := hs.bnd.vars
  have hOk := hv.ok
  have hcl : s.S.cons.length = s.cons.length := by show (s.cons.map R.C).length = _; rw [List.length_map]
  generalize hSS : s.S = S at *
  have HC := Lib.hid (And.intro hc (And.intro hs (And.intro hv hn)))
  have HS := Lib.hid (And.intro hSS hOk)
  have HCL := Lib.hid hcl
  have HES := Lib.hid es
  clear hc hcc hs hv hOk hcl es
  unfold SysV
  go_enter Try.func28, Try.ntmps28
  go_wp2_with (at_make; go_loud (refine wp_make (f := Value.bool) false sBoolD rfl _ rfl _ _ rfl .i64 .i64 _ _ S.vars rfl rfl HES.out HES.out (by omega) (by unfold maxLen; omega) ?_; intro va vc W1 ho1 hb1; have hM := RvM.start ho1 hb1; obtain ⟨i1, d1⟩ := hM.rd; obtain ⟨d2, f2⟩ := d1 v hn; have HM := Lib.hid (hM.set hn); clear ho1 hb1 hM d1))
  obtain ⟨bs, hbs⟩ : ∃ bs, bs = W.heap.size := ⟨_, rfl⟩
  have hbw := hbs
  rw [← hbs] at HM ⊢
  have HBW := Lib.hid hbw
  clear hbs hbw hSS
  have hI0 : RvI S v ((List.replicate S.vars false).set v true) := ⟨by simp, by rw [nth_set, if_pos ⟨rfl, by simpa using hn⟩], fun x hx => by
    rw [nth_set] at hx
    split at hx
    · rename_i e; rw [← e.1]; exact .root
    · exfalso
      have : nth (List.replicate S.vars false) x = false := by
        by_cases h : x < S.vars
        · simp [nth, h]
        · rw [nth_out _ _ (by simp; omega)]; rfl
      rw [this] at hx; cases hx⟩
  generalize (List.replicate S.vars false).set v true = vl0 at *
  have HI0 := Lib.hid hI0
  clear hI0 d2 f2
  go_loopg [6, 7, 8, 9, 10, 11] (gasR S vl0 true) (fun g m _ _ _ _ _ wr => ∃ (vl : List Bool) (b : Bool), m = .bool b ∧ g = gasR S vl b ∧ Hid (RvM s (.slice ca s.cons.length cc) bs va vc vl S W wr ∧ RvI S v vl ∧ (b = false → ∀ j, j < S.cons.length → ClC S vl (nth S.cons j))))
  case atStart => exact ⟨vl0, true, rfl, rfl, HM.out, HI0.out, by simp⟩
  case round =>
    clear HM HI0
    obtain ⟨vl, b, rfl, rfl, hh⟩ := hrel
    cases b
    · have HH := Lib.hid hh.out
      clear hh
      go_wp2_with fail
      go_ret
      exact ⟨va, vc, vl, rfl, HH.out.1.own.lst, HH.out.2.1.isVis (HH.out.2.2 trivial), by rw [← HBW.out]; exact HH.out.1.bel⟩
    · obtain ⟨W2, hW2⟩ : ∃ w2 : World, w2 = wr := ⟨_, rfl⟩
      rw [← hW2] at hh ⊢
      have HH := Lib.hid hh.out
      clear hh hW2
      go_wp2_with fail
      go_loopw [6, 7, 8, 9, 10, 11] (fun m x _ _ _ _ wr => ∃ (i : Nat) (vl2 : List Bool) (b2 : Bool), i ≤ s.cons.length ∧ x = .int .i64 i ∧ m = .bool b2 ∧ Hid (RvM s (.slice ca s.cons.length cc) bs va vc vl2 S W wr ∧ Mrk S v (vl.count true) i [] 0 vl2 b2)) (fun _ x _ _ _ _ _ => s.cons.length - (intOf x).toNat)
      case atStart => exact ⟨0, vl, false, by omega, rfl, rfl, HH.out.1, Mrk.start HH.out.2.1⟩
      case round =>
        obtain ⟨i, vl2, b2, hi, rfl, rfl, hh⟩ := hrel
        obtain ⟨g0, g1, g2, g3⟩ := hh.out.1.box
        have hlt0 := hh.out.1.lt
        have hne0 : bs ≠ wr.heap.size := by omega
        by_cases hil : i < s.cons.length
        · have hbel : Below W.heap.size W wr := hh.out.1.bel.mono (Nat.le_of_eq HBW.out.symm)
          obtain ⟨sa, sc, hcell⟩ := cons_cells HC.out.1 HC.out.2.2.1 hil
          rw [HS.out.1] at hcell
          obtain ⟨p0, p1, p2, p3, p4, -⟩ := hcell wr hbel
          have hcm : nth S.cons i ∈ S.cons := nth_mem _ _ (by rw [HCL.out]; exact hil)
          have hOkc := HS.out.2 _ hcm
          have hk5 := hOkc.kind
          have hbS := hOkc.b
          obtain ⟨j1, j2⟩ := hh.out.1.rd
          obtain ⟨hob, hb1, hb2⟩ := hh.out.1.ob hbS
          have hb3 : blk va ≠ wr.heap.size := by omega
          obtain ⟨e1, f1⟩ := j2 _ hbS
          obtain ⟨c, hc⟩ : ∃ c, c = nth S.cons i := ⟨_, rfl⟩
          have HI0 := Lib.hid (And.intro hc hcm)
          rw [← hc] at p0 p1 p2 p3 p4 hk5 hbS e1 f1
          clear hc hcm hOkc j2 hcell
          obtain ⟨ck, c_a, c_b, c_f, c_s⟩ := c
          dsimp only at *
          have hca : ck = 1 ∨ ck = 4 ∨ (ck ≠ 1 ∧ ck ≠ 4) := by omega
          rcases hca with rfl | rfl | ⟨hc1, hc4⟩
          · go_wp2_with fail
            go_roundw
            case rel => exact ⟨i + 1, vl2, b2, by omega, by go_num, rfl, hh.out.1.keep (grownBy_alloc _ _), hh.out.2.skip (.inl (by rw [← HI0.out.1]; unfold Flw; simp))⟩
            case measure => simp [intOf]; omega
          · go_wp2_with fail
            go_roundw
            case rel => exact ⟨i + 1, vl2, b2, by omega, by go_num, rfl, hh.out.1.keep (grownBy_alloc _ _), hh.out.2.skip (.inl (by rw [← HI0.out.1]; unfold Flw; simp))⟩
            case measure => simp [intOf]; omega
          · have q1 : ((ck : Int) == 1) = false := by simp; omega
            have q4 : ((ck : Int) == 4) = false := by simp; omega
            have hfw : ck = 2 ∨ ck = 3 ∨ ck = 5 := by omega
            have HFW := Lib.hid hfw
            clear hc1 hc4 hk5 hfw
            by_cases hin : nth vl2 c_b = true
            · rw [hin] at e1
              have HIN := Lib.hid hin
              clear hin
              obtain ⟨t3, ht3⟩ : ∃ t, t = ((ck : Int) == 3) := ⟨_, rfl⟩
              have q3 : ((ck : Int) == 3) = t3 := ht3.symm
              have HT3 : Hid (t3 = true ↔ ck = 3) := Lib.hid (by rw [ht3]; simp; omega)
              have HI : Hid ((⟨ck, c_a, c_b, c_f, c_s⟩ : C) = nth S.cons i ∧ nth S.cons i ∈ S.cons ∧ Flw (nth S.cons i) ∧ Vis S v (nth S.cons i).b) := Lib.hid ⟨HI0.out.1, HI0.out.2, by rw [← HI0.out.1]; exact HFW.out, by rw [← HI0.out.1]; exact hh.out.2.inv.sub _ HIN.out⟩
              have HBA : Hid (blk va < wr.heap.size ∧ bs < wr.heap.size ∧ (Value.slice va S.vars vc).ownBlock = some (blk va)) := Lib.hid ⟨hb2, hlt0, hob⟩
              have hA : OwnI ((wr.alloc (.cells #[.int .i64 (ck : Int), .int .i64 (c_a : Int), .int .i64 (c_b : Int), .int .i64 (c_f : Int), .slice sa c_s.length sc] 37)).alloc (.cells #[.int .i64 (c_a : Int)] 3)) (wr.heap.size + 1) 3 (.slice (some ⟨wr.heap.size + 1, 0, none⟩) 1 1) ((ldK t3 S (nth S.cons i) 0).map fun x : Nat => (x : Int)) := by
                have h0 : ldK t3 S (nth S.cons i) 0 = [c_a] := by
                  unfold ldK; rw [ldL_zero, ← HI0.out.1]; simp
                rw [h0]
                exact own_one _ _ (by simp) (by simp)
              have hB := (BoxC.new wr ck c_a c_b c_f (.slice sa c_s.length sc) 37).grown (grownBy_alloc _ (.cells #[.int .i64 (c_a : Int)] 3)) (by simp)
              have HA := Lib.hid (And.intro hA (And.intro hB (And.intro ((hh.out.1.keep (grownBy_alloc _ (.cells #[.int .i64 (ck : Int), .int .i64 (c_a : Int), .int .i64 (c_b : Int), .int .i64 (c_f : Int), .slice sa c_s.length sc] 37))).keep (grownBy_alloc _ (.cells #[.int .i64 (c_a : Int)] 3))) hh.out.2)))
              clear ht3 hA hB hh
              go_wp2_with fail
              clear p0 p1 p2 p3 p4 e1 f1 g0 g1 g2 g3 q1 q4
              obtain ⟨bc, hbc⟩ : ∃ bc, bc = wr.heap.size := ⟨_, rfl⟩
              refine wp_gen (fun Z => RvM s (.slice ca s.cons.length cc) bs va vc vl2 S W Z ∧ OwnI Z (bc + 1) 3 (.slice (some ⟨wr.heap.size + 1, 0, none⟩) 1 1) ((ldK t3 S (nth S.cons i) 0).map fun x : Nat => (x : Int)) ∧ BoxC Z bc ck c_a c_b c_f (.slice sa c_s.length sc) ∧ bc + 1 ≤ Z.heap.size ∧ Mrk S v (vl.count true) i [] 0 vl2 b2) (by rw [hbc]; exact ⟨HA.out.2.2.1, HA.out.1, HA.out.2.1, by simp, HA.out.2.2.2⟩) ?_
              rintro Z3 hz3
              rw [← hbc] at HBA ⊢ hz3
              have HZ3 := Lib.hid hz3
              clear hz3 HA hbc hlt0 hne0 hbel hob hb1 hb2 hb3
              have HBC : Hid (blk va ≤ bc) := Lib.hid (Nat.le_of_lt HBA.out.1)
              go_loopw [9, 10] (fun o x wr => ∃ k : Nat, k ≤ s.cons.length ∧ x = .int .i64 k ∧ Hid (RvM s (.slice ca s.cons.length cc) bs va vc vl2 S W wr ∧ OwnI wr (bc + 1) 3 o ((ldK t3 S (nth S.cons i) k).map fun x : Nat => (x : Int)) ∧ BoxC wr bc ck c_a c_b c_f (.slice sa c_s.length sc) ∧ bc + 1 ≤ wr.heap.size ∧ Mrk S v (vl.count true) i [] 0 vl2 b2)) (fun _ x _ => s.cons.length - (intOf x).toNat)
              case atStart => exact ⟨0, by omega, rfl, HZ3.out⟩
              case round =>
                clear HZ3
                obtain ⟨k, hk, rfl, h3⟩ := hrel
                obtain ⟨x0, x1, x2, x3, x4⟩ := h3.out.2.2.1
                obtain ⟨g0, g1, g2, g3⟩ := h3.out.1.box
                clear x1 x2 x4 g0 g1 g2
                by_cases hkl : k < s.cons.length
                · cases t3
                  · have HL3 := Lib.hid (And.intro h3.out (show LsOf S (nth S.cons i) (ldK _ S (nth S.cons i) k) from lsOf_one' HT3.out HI.out.1))
                    obtain ⟨L, hL⟩ : ∃ L, L = ldK false S (nth S.cons i) k := ⟨_, rfl⟩
                    rw [← hL] at HL3
                    clear h3 hL
                    obtain ⟨la, lc, rfl⟩ := HL3.out.1.2.1.shape (n := L.length) (by simp)
                    have hLb := HL3.out.1.2.2.2.1
                    have HLB := Lib.hid hLb
                    clear hLb
                    go_wp2_with fail
                    obtain ⟨wo, hwo⟩ : ∃ wo : World, wo = wr := ⟨_, rfl⟩
                    rw [← hwo] at HL3 ⊢
                    clear hwo
                    go_loopw [6, 11] (fun m x wr => ∃ (k : Nat) (vl3 : List Bool) (b3 : Bool), k ≤ L.length ∧ x = .int .i64 k ∧ m = .bool b3 ∧ Hid (RvM s (.slice ca s.cons.length cc) bs va vc vl3 S W wr ∧ OwnI wr (bc + 1) 3 (.slice la L.length lc) (L.map fun x : Nat => (x : Int)) ∧ Mrk S v (vl.count true) i L k vl3 b3)) (fun _ x _ => L.length - (intOf x).toNat)
                    case atStart => exact ⟨0, vl2, b2, by omega, rfl, rfl, HL3.out.1.1, HL3.out.1.2.1, HL3.out.1.2.2.2.2.enter L⟩
                    case round =>
                      obtain ⟨k, vl3, b3, hk, rfl, rfl, h4⟩ := hrel
                      by_cases hkl : k < L.length
                      · obtain ⟨a9, c9, he9, hm9, i9, d9, -⟩ := h4.out.2.1.lst.out1 sIntD
                        simp only [Value.slice.injEq, List.length_map] at he9
                        obtain ⟨rfl, -, rfl⟩ := he9
                        simp only [List.length_map] at hm9 i9 d9
                        have d8 := d9 k hkl
                        rw [nth_map' _ _ _ hkl] at d8
                        have hx := HL3.out.2.only _ (nth_mem L k hkl)
                        have hvx := hx.vis HI.out.2.1 HI.out.2.2.1 HI.out.2.2.2
                        have hxl := hvx.lt HS.out.2 HC.out.2.2.2
                        obtain ⟨x, hxe⟩ : ∃ x, x = nth L k := ⟨_, rfl⟩
                        rw [← hxe] at d8 hvx hxl
                        obtain ⟨j1, j2⟩ := h4.out.1.rd
                        obtain ⟨e1, f1⟩ := j2 x hxl
                        have HX := Lib.hid (And.intro hxe hvx)
                        clear hx hvx hxe d9 j2
                        by_cases hin : nth vl3 x = true
                        · rw [hin] at e1
                          have HIN := Lib.hid hin
                          clear hin
                          go_wp2_with fail
                          go_roundw
                          case rel => exact ⟨k + 1, vl3, b3, by omega, by go_num, rfl, h4.out.1, h4.out.2.1, h4.out.2.2.yes (by rw [← HX.out.1]; exact HIN.out)⟩
                          case measure => simp [intOf]; omega
                        · have hin2 : nth vl3 x = false := by simpa using hin
                          rw [hin2] at e1
                          have HIN := Lib.hid hin2
                          clear hin hin2
                          go_wp2_with fail
                          go_roundw
                          case rel => exact ⟨k + 1, vl3.set x true, true, by omega, by go_num, rfl, h4.out.1.set hxl, h4.out.2.1.grown (grownBy_setCell _ _ _) (.inr fun e => by have h1 := h4.out.2.1.lt _ e; have h2 := HBC.out; have h3 : (⟨blk va, ofs va + x, none⟩ : Addr).block = blk va := rfl; omega), h4.out.2.2.mark HIN.out hxl HX.out.2⟩
                          case measure => simp [intOf]; omega
                      · obtain rfl : k = L.length := by omega
                        go_wp2_with fail
                        go_roundw
                        case rel => exact ⟨i + 1, vl3, b3, by omega, by go_num, rfl, h4.out.1, h4.out.2.2.close HL3.out.2.all⟩
                        case measure => simp [intOf]; omega
                  · have hbel : Below W.heap.size W wr := h3.out.1.bel.mono (Nat.le_of_eq HBW.out.symm)
                    obtain ⟨sa2, sc2, hcell⟩ := cons_cells HC.out.1 HC.out.2.2.1 hkl
                    rw [HS.out.1] at hcell
                    obtain ⟨p0, p1, p2, p3, -, -⟩ := hcell wr hbel
                    obtain ⟨d, hd⟩ : ∃ d, d = nth S.cons k := ⟨_, rfl⟩
                    rw [← hd] at p0 p1 p2 p3
                    have HD := Lib.hid hd
                    have HCA : Hid (blk ca < W.heap.size ∧ bs = W.heap.size) := Lib.hid ⟨World.block_lt_of_cell? W _ (hcell W (Below.refl _ _)).1, HBW.out⟩
                    clear hcell hd
                    obtain ⟨dk, d_a, d_b, d_f, d_s⟩ := d
                    dsimp only at *
                    have hLl : (ldK true S (nth S.cons i) k).length ≤ 203 := Nat.le_trans (ldK_len _ _ _ _) (by rw [HCL.out]; omega)
                    by_cases hk4 : dk = 4
                    · have q5 : ((dk : Int) == 4) = true := by simp; omega
                      by_cases hf : d_f = c_f
                      · have q6 : ((d_f : Int) == (c_f : Int)) = true := by simp; omega
                        have HK4 := Lib.hid (And.intro hk4 hf)
                        clear hk4 hf
                        go_wp2_with fail
                        go_quiet (fail)
                        go_wp2_with fail
                        obtain ⟨n, hnL⟩ : ∃ n, n = (ldK true S (nth S.cons i) k).length := ⟨_, rfl⟩
                        obtain ⟨la, lc, rfl⟩ := h3.out.2.1.shape (n := n) (by rw [List.length_map]; exact hnL.symm)
                        rw [← hnL] at hLl
                        have HnL := Lib.hid hnL
                        clear hnL p0 p3 q5 q6 x3
                        refine wp_gen (fun Z => RvM s (.slice ca s.cons.length cc) bs va vc vl2 S W Z ∧ OwnI Z (bc + 1) 3 (.slice la n lc) ((ldK true S (nth S.cons i) k).map fun x : Nat => (x : Int)) ∧ BoxC Z bc ck c_a c_b c_f (.slice sa c_s.length sc) ∧ bc + 1 ≤ Z.heap.size ∧ wr.grownBy Z none) ⟨h3.out.1.keep (grownBy_qt (by first | exact Qt.refl _ | exact Qt.drewN _ _ | exact (Qt.drewN _ _).trans (Qt.drewN _ _) | exact ((Qt.drewN _ _).trans (Qt.drewN _ _)).trans (Qt.drewN _ _) | exact Qt.drew _ | exact (Qt.drewN _ _).trans (Qt.drew _))), h3.out.2.1.qt (by first | exact Qt.refl _ | exact Qt.drewN _ _ | exact (Qt.drewN _ _).trans (Qt.drewN _ _) | exact ((Qt.drewN _ _).trans (Qt.drewN _ _)).trans (Qt.drewN _ _) | exact Qt.drew _ | exact (Qt.drewN _ _).trans (Qt.drew _)), h3.out.2.2.1.grown (grownBy_qt (by first | exact Qt.refl _ | exact Qt.drewN _ _ | exact (Qt.drewN _ _).trans (Qt.drewN _ _) | exact ((Qt.drewN _ _).trans (Qt.drewN _ _)).trans (Qt.drewN _ _) | exact Qt.drew _ | exact (Qt.drewN _ _).trans (Qt.drew _))) (by simp), h3.out.2.2.2.1, grownBy_qt (by first | exact Qt.refl _ | exact Qt.drewN _ _ | exact (Qt.drewN _ _).trans (Qt.drewN _ _) | exact ((Qt.drewN _ _).trans (Qt.drewN _ _)).trans (Qt.drewN _ _) | exact Qt.drew _ | exact (Qt.drewN _ _).trans (Qt.drew _))⟩ ?_
                        rintro W5 h5
                        have r1 := h5.1.box.2.2.2
                        have r2 := h5.2.2.2.2.cell p1 (by simp)
                        have r3 := h5.2.2.2.2.cell p2 (by simp)
                        have H5 := Lib.hid h5
                        have HM3 := Lib.hid h3.out.2.2.2.2
                        clear h5 h3 p1 p2 g3 x0
                        refine wp_region_mix [0, 1, 2, 3, 4, 5, 6, 7, 8, 9, 10, 11, 12] [13, 14, 15] (fun w' => w'.cell? ⟨bs, 3, none⟩ = some (.slice ca s.cons.length cc) ∧ w'.cell? ⟨blk ca, ofs ca + k * 5 + 1, none⟩ = some (.int .i64 (d_a : Int)) ∧ w'.cell? ⟨blk ca, ofs ca + k * 5 + 2, none⟩ = some (.int .i64 (d_b : Int))) (by kernel_rfl) (by kernel_rfl) (by kernel_rfl) ⟨r1, r2, r3⟩ ?_
                        have g5 := grownBy_drew0 W5
                        have H5' := Lib.hid (And.intro (H5.out.1.keep g5) (And.intro (H5.out.2.1.grown g5 (by cases (Value.slice la n lc).ownBlock <;> simp)) (And.intro (H5.out.2.2.1.grown g5 (by simp)) (And.intro (show bc + 1 ≤ W5.drew.heap.size from H5.out.2.2.2.1) (And.intro (g5.cell r1 (by simp)) (And.intro (g5.cell r2 (by simp)) (g5.cell r3 (by simp))))))))
                        clear g5 r1 r2 r3
                        generalize W5.drew = V5 at *
                        repeat (
                          refine wpHeads_cons (v := ?_) rfl (Or.inl ⟨by rfl, ?_⟩) ?_
                          rotate_left
                          · (intro W hW; obtain ⟨q1, q2, q3⟩ := hW; go_simp; try with_reducible rfl)
                          simp only [Act.put, List.setIfInBounds_toArray])
                        refine wpHeads_nil ?_
                        refine wpTails_cons rfl ?_
                        go_wp2_with fail
                        have gA := grownBy_alloc V5 (.cells #[.int .i64 (d_a : Int), .int .i64 (d_b : Int)] 3)
                        refine tail_mk ⟨gA.cell H5'.out.2.2.2.2.1 (by simp), gA.cell H5'.out.2.2.2.2.2.1 (by simp), gA.cell H5'.out.2.2.2.2.2.2 (by simp)⟩ ?_
                        refine wpTails_cons rfl ?_
                        have cq := cells_new (W := V5) (cs := [.int .i64 (d_a : Int), .int .i64 (d_b : Int)]) (t := 3) rfl
                        refine wp_appendS (f := Value.int .i64) sIntD rfl rfl _ _ rfl (bc + 1) (.slice la n lc) ((ldK true S (nth S.cons i) k).map fun x : Nat => (x : Int)) rfl (.slice (some ⟨V5.heap.size, 0, none⟩) 2 2) [(d_a : Int), (d_b : Int)] rfl (H5'.out.2.1.alloc _) (src_two _ (cq 0 _ rfl) (cq 1 _ rfl)) (by simp [Value.oneCell']) (by rw [List.length_map, ← HnL.out]; simp; omega) (by omega) (le_alloc _ H5'.out.2.2.2.1) ?_
                        intro v9 W9 o9 g9 l9
                        obtain ⟨s9, c9, rfl⟩ := o9.shape (n := n + 2) (by rw [List.length_append, List.length_map, ← HnL.out]; rfl)
                        have hrow : ∀ m, (Value.slice la n lc).ownBlock = some m → bc + 1 ≤ m := fun m e => (H5'.out.2.1.lt m e).1
                        have hM9 := (H5'.out.1.keep gA).grown g9 (fun m e => by
                          have h1 := hrow m e
                          have h2 := HBC.out
                          have h3 := HBA.out.2.1
                          refine ⟨by omega, fun e2 => ?_⟩
                          rw [HBA.out.2.2] at e2
                          have e3 : blk va = m := Option.some.inj e2
                          omega)
                        have hB9 := (H5'.out.2.2.1.grown gA (by simp)).grown g9 (fun e => by have h1 := hrow bc e.symm; omega)
                        have s9' := hM9.box.2.2.2
                        have t1 := g9.cell (gA.cell H5'.out.2.2.2.2.2.1 (by simp)) (fun e => by have e2 := hrow (blk ca) e.symm; have e3 := HCA.out; have e4 := HBA.out.2.1; omega)
                        have t2 := g9.cell (gA.cell H5'.out.2.2.2.2.2.2 (by simp)) (fun e => by have e2 := hrow (blk ca) e.symm; have e3 := HCA.out; have e4 := HBA.out.2.1; omega)
                        have hz9 : bc + 1 ≤ W9.heap.size := Nat.le_trans (le_alloc _ H5'.out.2.2.2.1) g9.size
                        have hL9 : (ldK true S (nth S.cons i) k).map (fun x : Nat => (x : Int)) ++ [(d_a : Int), (d_b : Int)] = (ldK true S (nth S.cons i) (k + 1)).map fun x : Nat => (x : Int) := by
                          have := ldL_yes (S := S) (c := nth S.cons i) (k := k) (by rw [HCL.out]; exact hkl) (by rw [← HD.out]; exact HK4.out.1) (by rw [← HD.out, ← HI.out.1]; exact HK4.out.2)
                          show (ldL S (nth S.cons i) k).map (fun x : Nat => (x : Int)) ++ _ = (ldL S (nth S.cons i) (k + 1)).map _
                          rw [this, ← HD.out]; simp
                        rw [hL9] at o9
                        have H9 := Lib.hid (And.intro hM9 (And.intro o9 (And.intro hB9 hz9)))
                        clear hM9 o9 hB9 hz9 g9 l9 gA cq hrow hL9
                        refine tail_mk ⟨s9', t1, t2⟩ ?_
                        refine wpTails_one rfl ?_
                        clear s9' t1 t2
                        go_wp2_with fail
                        refine thenQ_mk ?_
                        go_wp2_with fail
                        go_roundw
                        case rel => exact ⟨k + 1, by omega, by go_num, H9.out.1, H9.out.2.1, H9.out.2.2.1, H9.out.2.2.2, HM3.out⟩
                        case measure => simp [intOf]; omega
                      · (have q6 : ((d_f : Int) == (c_f : Int)) = false := by simp; omega)
                        have HN : Hid (ldK true S (nth S.cons i) (k + 1) = ldK true S (nth S.cons i) k) := Lib.hid (ldL_no (by rw [HCL.out]; exact hkl) (fun h => hf (by have h2 := h.2; rw [← HD.out, ← HI.out.1] at h2; exact h2)))
                        go_wp2_with fail
                        go_quiet (fail)
                        go_wp2_with fail
                        go_roundw
                        case rel => exact ⟨k + 1, by omega, by go_num, h3.out.1.keep (grownBy_qt (by first | exact Qt.refl _ | exact Qt.drewN _ _ | exact (Qt.drewN _ _).trans (Qt.drewN _ _) | exact ((Qt.drewN _ _).trans (Qt.drewN _ _)).trans (Qt.drewN _ _) | exact Qt.drew _ | exact (Qt.drewN _ _).trans (Qt.drew _))), by rw [HN.out]; exact h3.out.2.1.qt (by first | exact Qt.refl _ | exact Qt.drewN _ _ | exact (Qt.drewN _ _).trans (Qt.drewN _ _) | exact ((Qt.drewN _ _).trans (Qt.drewN _ _)).trans (Qt.drewN _ _) | exact Qt.drew _ | exact (Qt.drewN _ _).trans (Qt.drew _)), h3.out.2.2.1.grown (grownBy_qt (by first | exact Qt.refl _ | exact Qt.drewN _ _ | exact (Qt.drewN _ _).trans (Qt.drewN _ _) | exact ((Qt.drewN _ _).trans (Qt.drewN _ _)).trans (Qt.drewN _ _) | exact Qt.drew _ | exact (Qt.drewN _ _).trans (Qt.drew _))) (by simp), h3.out.2.2.2.1, h3.out.2.2.2.2⟩
                        case measure => simp [intOf]; omega
                    · (have q5 : ((dk : Int) == 4) = false := by simp; omega)
                      have HN : Hid (ldK true S (nth S.cons i) (k + 1) = ldK true S (nth S.cons i) k) := Lib.hid (ldL_no (by rw [HCL.out]; exact hkl) (fun h => hk4 (by have h2 := h.1; rw [← HD.out] at h2; exact h2)))
                      go_wp2_with fail
                      go_quiet (fail)
                      go_wp2_with fail
                      go_roundw
                      case rel => exact ⟨k + 1, by omega, by go_num, h3.out.1.keep (grownBy_qt (by first | exact Qt.refl _ | exact Qt.drewN _ _ | exact (Qt.drewN _ _).trans (Qt.drewN _ _) | exact ((Qt.drewN _ _).trans (Qt.drewN _ _)).trans (Qt.drewN _ _) | exact Qt.drew _ | exact (Qt.drewN _ _).trans (Qt.drew _))), by rw [HN.out]; exact h3.out.2.1.qt (by first | exact Qt.refl _ | exact Qt.drewN _ _ | exact (Qt.drewN _ _).trans (Qt.drewN _ _) | exact ((Qt.drewN _ _).trans (Qt.drewN _ _)).trans (Qt.drewN _ _) | exact Qt.drew _ | exact (Qt.drewN _ _).trans (Qt.drew _)), h3.out.2.2.1.grown (grownBy_qt (by first | exact Qt.refl _ | exact Qt.drewN _ _ | exact (Qt.drewN _ _).trans (Qt.drewN _ _) | exact ((Qt.drewN _ _).trans (Qt.drewN _ _)).trans (Qt.drewN _ _) | exact Qt.drew _ | exact (Qt.drewN _ _).trans (Qt.drew _))) (by simp), h3.out.2.2.2.1, h3.out.2.2.2.2⟩
                      case measure => simp [intOf]; omega
                · obtain rfl : k = s.cons.length := by omega
                  have HL3 := Lib.hid (And.intro h3.out (show LsOf S (nth S.cons i) (ldK _ S (nth S.cons i) s.cons.length) from lsOf_K HCL.out HT3.out HI.out.1))
                  obtain ⟨L, hL⟩ : ∃ L, L = ldK t3 S (nth S.cons i) s.cons.length := ⟨_, rfl⟩
                  rw [← hL] at HL3
                  clear h3 hL
                  obtain ⟨la, lc, rfl⟩ := HL3.out.1.2.1.shape (n := L.length) (by simp)
                  have hLb := HL3.out.1.2.2.2.1
                  have HLB := Lib.hid hLb
                  clear hLb
                  go_wp2_with fail
                  obtain ⟨wo, hwo⟩ : ∃ wo : World, wo = wr := ⟨_, rfl⟩
                  rw [← hwo] at HL3 ⊢
                  clear hwo
                  go_loopw [6, 11] (fun m x wr => ∃ (k : Nat) (vl3 : List Bool) (b3 : Bool), k ≤ L.length ∧ x = .int .i64 k ∧ m = .bool b3 ∧ Hid (RvM s (.slice ca s.cons.length cc) bs va vc vl3 S W wr ∧ OwnI wr (bc + 1) 3 (.slice la L.length lc) (L.map fun x : Nat => (x : Int)) ∧ Mrk S v (vl.count true) i L k vl3 b3)) (fun _ x _ => L.length - (intOf x).toNat)
                  case atStart => exact ⟨0, vl2, b2, by omega, rfl, rfl, HL3.out.1.1, HL3.out.1.2.1, HL3.out.1.2.2.2.2.enter L⟩
                  case round =>
                    obtain ⟨k, vl3, b3, hk, rfl, rfl, h4⟩ := hrel
                    by_cases hkl : k < L.length
                    · obtain ⟨a9, c9, he9, hm9, i9, d9, -⟩ := h4.out.2.1.lst.out1 sIntD
                      simp only [Value.slice.injEq, List.length_map] at he9
                      obtain ⟨rfl, -, rfl⟩ := he9
                      simp only [List.length_map] at hm9 i9 d9
                      have d8 := d9 k hkl
                      rw [nth_map' _ _ _ hkl] at d8
                      have hx := HL3.out.2.only _ (nth_mem L k hkl)
                      have hvx := hx.vis HI.out.2.1 HI.out.2.2.1 HI.out.2.2.2
                      have hxl := hvx.lt HS.out.2 HC.out.2.2.2
                      obtain ⟨x, hxe⟩ : ∃ x, x = nth L k := ⟨_, rfl⟩
                      rw [← hxe] at d8 hvx hxl
                      obtain ⟨j1, j2⟩ := h4.out.1.rd
                      obtain ⟨e1, f1⟩ := j2 x hxl
                      have HX := Lib.hid (And.intro hxe hvx)
                      clear hx hvx hxe d9 j2
                      by_cases hin : nth vl3 x = true
                      · rw [hin] at e1
                        have HIN := Lib.hid hin
                        clear hin
                        go_wp2_with fail
                        go_roundw
                        case rel => exact ⟨k + 1, vl3, b3, by omega, by go_num, rfl, h4.out.1, h4.out.2.1, h4.out.2.2.yes (by rw [← HX.out.1]; exact HIN.out)⟩
                        case measure => simp [intOf]; omega
                      · have hin2 : nth vl3 x = false := by simpa using hin
                        rw [hin2] at e1
                        have HIN := Lib.hid hin2
                        clear hin hin2
                        go_wp2_with fail
                        go_roundw
                        case rel => exact ⟨k + 1, vl3.set x true, true, by omega, by go_num, rfl, h4.out.1.set hxl, h4.out.2.1.grown (grownBy_setCell _ _ _) (.inr fun e => by have h1 := h4.out.2.1.lt _ e; have h2 := HBC.out; have h3 : (⟨blk va, ofs va + x, none⟩ : Addr).block = blk va := rfl; omega), h4.out.2.2.mark HIN.out hxl HX.out.2⟩
                        case measure => simp [intOf]; omega
                    · obtain rfl : k = L.length := by omega
                      go_wp2_with fail
                      go_roundw
                      case rel => exact ⟨i + 1, vl3, b3, by omega, by go_num, rfl, h4.out.1, h4.out.2.2.close HL3.out.2.all⟩
                      case measure => simp [intOf]; omega
            · have hin2 : nth vl2 c_b = false := by simpa using hin
              rw [hin2] at e1
              have HIN := Lib.hid hin2
              clear hin hin2
              go_wp2_with fail
              go_roundw
              case rel => exact ⟨i + 1, vl2, b2, by omega, by go_num, rfl, hh.out.1.keep (grownBy_alloc _ _), hh.out.2.skip (.inr (by rw [← HI0.out.1]; exact HIN.out))⟩
              case measure => simp [intOf]; omega
        · obtain rfl : i = s.cons.length := by omega
          go_wp2_with fail
          go_roundg (gasR S vl2 b2)
          case rel => exact ⟨vl2, b2, rfl, rfl, hh.out.1, hh.out.2.inv, fun e => by rw [HCL.out]; exact (hh.out.2.no e).2.1⟩
          case measure => exact hh.out.2.gas
end Go.Proofs.Ytkfhopnolflchaa
