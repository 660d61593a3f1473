/- Contracts of Within, satisfied. -/
import Derived.Test.YtdlfbkmjemamhaaSlv
import Derived.Test.YtdlfbkmjemamhaaWin
namespace Go.Proofs.Ytdlfbkmjemamhaa
open Go.RowKit Go.Dfl Go.And

set_option maxHeartbeats 1600000 in
theorem WithinP_any (u1 u2 v1 v2 : Value) (a1 a2 b1 b2 : List (List Int)) (W : World) (hu : PtsIn W u1 u2 a1 a2) (hv : PtsIn W v1 v2 b1 b2) (r1 : InR a1) (r2 : InR a2) (r3 : InR b1) (r4 : InR b2) (l1 : ∀ i, i < b1.length → (nth b1 i).length ≤ 1000000) (l2 : ∀ i, i < b2.length → (nth b2 i).length ≤ 1000000) :
    Calls Try.prog 16 #[.agg #[u1, u2], .agg #[v1, v2]] W fun e W' => e = .returned (.bool (winB a1 b1 && winB a2 b2)) ∧ Below W.heap.size W W' := by
  obtain ⟨⟨us1, hu1⟩, us2, hu2⟩ := hu
  obtain ⟨⟨vs1, hv1⟩, vs2, hv2⟩ := hv
  have hb0 : Below W.heap.size W _ := ((Below.refl W.heap.size W).alloc (Nat.le_refl _) (.cells #[u1, u2] 29)).alloc (by simp) (.cells #[v1, v2] 29)
  have HB := Lib.hid hb0
  have HU := Lib.hid (And.intro hu1 (And.intro hu2 (And.intro hv1 (And.intro hv2 (And.intro r1 (And.intro r2 (And.intro r3 (And.intro r4 (And.intro l1 l2)))))))))
  have o1 : u1.oneCell' = true := by obtain ⟨a, c, e, -⟩ := hu1.1.out1 sInt2; rw [e]; rfl
  have o2 : u2.oneCell' = true := by obtain ⟨a, c, e, -⟩ := hu2.1.out1 sInt2; rw [e]; rfl
  have o3 : v1.oneCell' = true := by obtain ⟨a, c, e, -⟩ := hv1.1.out1 sInt2; rw [e]; rfl
  have o4 : v2.oneCell' = true := by obtain ⟨a, c, e, -⟩ := hv2.1.out1 sInt2; rw [e]; rfl
  obtain ⟨ua1, uc1, e1, -⟩ := hu1.1.out1 sInt2
  obtain ⟨ua2, uc2, e2, -⟩ := hu2.1.out1 sInt2
  obtain ⟨va1, vc1, e3, -⟩ := hv1.1.out1 sInt2
  obtain ⟨va2, vc2, e4, -⟩ := hv2.1.out1 sInt2
  subst e1 e2 e3 e4
  have hc2 := cells_new (W := W) (cs := [.slice ua1 us1.length uc1, .slice ua2 us2.length uc2]) (t := 29) rfl
  have hc3 := cells_new (W := W.alloc (.cells #[.slice ua1 us1.length uc1, .slice ua2 us2.length uc2] 29)) (cs := [.slice va1 vs1.length vc1, .slice va2 vs2.length vc2]) (t := 29) rfl
  have gB := grownBy_alloc (W.alloc (.cells #[.slice ua1 us1.length uc1, .slice ua2 us2.length uc2] 29)) (.cells #[.slice va1 vs1.length vc1, .slice va2 vs2.length vc2] 29)
  have k1 := gB.cell (hc2 1 _ rfl) (by simp)
  have k2 := hc3 1 _ rfl
  have HK := Lib.hid (And.intro k1 k2)
  clear hu1 hu2 hv1 hv2 r1 r2 r3 r4 l1 l2 hb0 k1 k2 gB hc2 hc3 o1 o2 o3 o4
  go_enter Try.func16, Try.ntmps16
  go_wp2_with fail
  refine (within_any _ _ us1 vs1 a1 b1 _ (HU.out.1.below HB.out) (HU.out.2.2.1.below HB.out) HU.out.2.2.2.2.1 HU.out.2.2.2.2.2.2.1 HU.out.2.2.2.2.2.2.2.2.1).mono ?_
  rintro e W1 ⟨rfl, q1⟩
  have b1' := HB.out.trans (q1.mono HB.out.size)
  have k1 : W1.cell? ⟨W.heap.size, 1, none⟩ = some (.slice ua2 us2.length uc2) := (grownBy_below q1).cell HK.out.1 (by simp)
  have k2 : W1.cell? ⟨W.heap.size + 1, 1, none⟩ = some (.slice va2 vs2.length vc2) := (grownBy_below q1).cell (by simp) (by simp)
  have H1 := Lib.hid b1'
  clear b1' q1
  cases hw : winB a1 b1
  · go_wp2_with fail
    go_ret
    exact ⟨ret_bool (by simp [hw]), H1.out⟩
  · go_wp2_with fail
    refine (within_any _ _ us2 vs2 a2 b2 _ (HU.out.2.1.below H1.out) (HU.out.2.2.2.1.below H1.out) HU.out.2.2.2.2.2.1 HU.out.2.2.2.2.2.2.2.1 HU.out.2.2.2.2.2.2.2.2.2).mono ?_
    rintro e W2 ⟨rfl, q2⟩
    have H2 := Lib.hid (H1.out.trans (q2.mono H1.out.size))
    clear q2 k1 k2
    go_wp2_with fail
    go_ret
    exact ⟨ret_bool (by simp [hw]), H2.out⟩

theorem Has_S {rl : Nat → Nat} {W : World} {v : Value} {s : Nat → Bool} (h : IsS rl W v s) (x : Nat) (hx : x ≤ 1000000) : Calls Try.prog 52 #[v, .int .i64 (x : Int)] W fun e W' => e = .returned (.bool (s x)) ∧ Qt W W' := by
  obtain ⟨r, a1, a2, a3, a4, a5⟩ := h
  refine (Has_any v r x W a1 a2 (by omega)).mono fun e W' ⟨he, hq⟩ => ⟨?_, hq⟩
  rw [he]
  refine ret_bool ?_
  simp [hasI, a4]


/-- The sets in memory. -/
structure SetsIn (N : Nat) (W : World) (v : Value) (xs : List Value) (p : Nat → Nat → Bool) : Prop where
  lst : Lst (fun x : Value => x) W v xs
  len : xs.length = N
  mean : ∀ i, i < N → IsS (fun _ => 0) W (nth xs i) (p i)
theorem SetsIn.below {N : Nat} {W W' : World} {v : Value} {xs : List Value} {p : Nat → Nat → Bool} (h : SetsIn N W v xs p) (hb : Below W.heap.size W W') : SetsIn N W' v xs p := ⟨h.lst.below hb, h.len, fun i hi => (h.mean i hi).bel hb⟩

/-- What satisfied reads. -/
def SatIn (W : World) (bs bc : Nat) (S : Syst) (cv : Value) (c : C) (setv : Value) (xa : Option Addr) (xs : List Value) : Prop :=
  BoxC W bc c.k c.a c.b c.f setv ∧ (W.cell? ⟨bs, 0, none⟩ = some (.int .i64 (S.vars : Int)) ∧ W.cell? ⟨bs, 1, none⟩ = some (.int .i64 (S.sites : Int)) ∧ W.cell? ⟨bs, 2, none⟩ = some (.int .i64 (S.fields : Int)) ∧ W.cell? ⟨bs, 3, none⟩ = some cv) ∧ (∀ i, i < S.N → W.cell? ⟨blk xa, ofs xa + i, none⟩ = some (nth xs i)) ∧ True
theorem SatIn.grown {W W' : World} {bs bc : Nat} {S : Syst} {cv : Value} {c : C} {setv : Value} {xa : Option Addr} {xs : List Value} (h : SatIn W bs bc S cv c setv xa xs) (hg : W.grownBy W' none) : SatIn W' bs bc S cv c setv xa xs :=
  ⟨h.1.grown hg (by simp), ⟨hg.cell h.2.1.1 (by simp), hg.cell h.2.1.2.1 (by simp), hg.cell h.2.1.2.2.1 (by simp), hg.cell h.2.1.2.2.2 (by simp)⟩, fun i hi => hg.cell (h.2.2.1 i hi) (by simp), trivial⟩

theorem satIn_new (W : World) (S : Syst) (cv : Value) (k a b f : Nat) (setv : Value) (cs : List Nat) {xa : Option Addr} {xs : List Value} (h : ∀ i, i < S.N → W.cell? ⟨blk xa, ofs xa + i, none⟩ = some (nth xs i)) :
    SatIn ((W.alloc (.cells #[.int .i64 (S.vars : Int), .int .i64 S.sites, .int .i64 S.fields, cv] 24)).alloc (.cells #[.int .i64 (k : Int), .int .i64 a, .int .i64 b, .int .i64 f, setv] 39)) W.heap.size (W.heap.size + 1) S cv ⟨k, a, b, f, cs⟩ setv xa xs := by
  have gA := grownBy_alloc W (.cells #[.int .i64 (S.vars : Int), .int .i64 S.sites, .int .i64 S.fields, cv] 24)
  have gB := grownBy_alloc (W.alloc (.cells #[.int .i64 (S.vars : Int), .int .i64 S.sites, .int .i64 S.fields, cv] 24)) (.cells #[.int .i64 (k : Int), .int .i64 a, .int .i64 b, .int .i64 f, setv] 39)
  have hn := cells_new (W := W) (cs := [.int .i64 (S.vars : Int), .int .i64 S.sites, .int .i64 S.fields, cv]) (t := 24) rfl
  refine ⟨?_, ⟨gB.cell (hn 0 _ rfl) (by simp), gB.cell (hn 1 _ rfl) (by simp), gB.cell (hn 2 _ rfl) (by simp), gB.cell (hn 3 _ rfl) (by simp)⟩, fun i hi => gB.cell (gA.cell (h i hi) (by simp)) (by simp), trivial⟩
  have := BoxC.new (W.alloc (.cells #[.int .i64 (S.vars : Int), .int .i64 S.sites, .int .i64 S.fields, cv] 24)) k a b f setv 39
  simpa using this
theorem below2' (W : World) (a b : Obj) : Below W.heap.size W ((W.alloc a).alloc b) := ((Below.refl W.heap.size W).alloc (Nat.le_refl _) a).alloc (by simp) b

set_option maxHeartbeats 6400000 in
set_option maxRecDepth 100000 in
theorem satisfied_any (S : Syst) (cv : Value) (c : C) (sa : Option Addr) (sn sc : Nat) (xa : Option Addr) (xc : Nat) (xs : List Value) (p : Nat → Nat → Bool) (W : World) (hx : SetsIn S.N W (.slice xa S.N xc) xs p) (hc : c.Ok S) (hB : S.vars ≤ 40 ∧ S.sites ≤ 12 ∧ S.fields ≤ 5 ∧ S.N ≤ 100)
    (hset : Ints W (.slice sa sn sc) (c.s.map fun x : Nat => (x : Int))) (hb : ∀ i x, p i x = true → x < S.sites) :
    Calls Try.prog 33 #[.agg #[.int .i64 S.vars, .int .i64 S.sites, .int .i64 S.fields, cv], .slice xa S.N xc, .agg #[.int .i64 c.k, .int .i64 c.a, .int .i64 c.b, .int .i64 c.f, .slice sa sn sc]] W
      fun e W' => ∃ b, e = .returned (.bool b) ∧ (b = true ↔ Holds S (fun i x => p i x = true) c) ∧ Below W.heap.size W W' := by
  obtain ⟨xa2, xc2, he2, hxn, hxi, hxcell, -⟩ := hx.lst.out1 sBits2
  simp only [Value.slice.injEq] at he2
  obtain ⟨rfl, -, rfl⟩ := he2
  rw [hx.len] at hxn hxi hxcell
  obtain ⟨bv, bsi, bf, bN⟩ := hB
  have HX := Lib.hid (And.intro hx (And.intro hc (And.intro hset (And.intro hb hxcell))))
  have hck := hc.kind
  have hbN := vN hc.b
  clear hx hc hset hb hxcell
  obtain ⟨ck, c_a, c_b, c_f, c_s⟩ := c
  dsimp only at *
  have hk5 : ck = 1 ∨ ck = 2 ∨ ck = 3 ∨ ck = 4 ∨ ck = 5 := by omega
  clear hck
  rcases hk5 with rfl | rfl | rfl | rfl | rfl
  · have ha : c_a < S.sites := by have h := HX.out.2.1.a; simpa using h
    have h0 := satIn_new W S cv 1 c_a c_b c_f (.slice sa sn sc) c_s HX.out.2.2.2.2
    rw [show ((1 : Nat) : Int) = 1 from rfl] at h0
    have H0 := Lib.hid (And.intro h0 (below2' W (.cells #[.int .i64 (S.vars : Int), .int .i64 S.sites, .int .i64 S.fields, cv] 24) (.cells #[.int .i64 1, .int .i64 c_a, .int .i64 c_b, .int .i64 c_f, .slice sa sn sc] 39)))
    clear h0
    go_enter Try.func33, Try.ntmps33
    go_wp2_with fail
    refine wp_gen (fun Z => SatIn Z W.heap.size (W.heap.size + 1) S cv ⟨1, c_a, c_b, c_f, c_s⟩ (.slice sa sn sc) xa xs ∧ Below W.heap.size W Z) ⟨H0.out.1, H0.out.2⟩ ?_
    rintro W1 h1
    obtain ⟨bs, hbs⟩ : ∃ bs, bs = W.heap.size := ⟨_, rfl⟩
    obtain ⟨bc, hbc⟩ : ∃ bc, bc = W.heap.size + 1 := ⟨_, rfl⟩
    rw [← hbc, ← hbs] at h1 ⊢
    rw [hbs] at h1
    have hS1 := h1.1
    have H1 := Lib.hid h1
    clear h1 H0
    rw [← hbs] at hS1
    clear hbs hbc
    refine wp_region_mix [0, 1, 2, 3, 4, 5, 6] [7, 8] (fun w' => SatIn w' bs bc S cv ⟨1, c_a, c_b, c_f, c_s⟩ (.slice sa sn sc) xa xs) (by kernel_rfl) (by kernel_rfl) (by kernel_rfl) (hS1.grown (grownBy_drew0 _)) ?_
    repeat (
      refine wpHeads_cons (v := ?_) rfl (Or.inl ⟨by rfl, ?_⟩) ?_
      rotate_left
      · (intro W hW; obtain ⟨⟨q1, q2, q3, q4, q5⟩, ⟨q6, q7, q8, q9⟩, q10, q11⟩ := hW; dsimp only at q1 q2 q3 q4; go_simp; try with_reducible rfl)
      simp only [Act.put, List.setIfInBounds_toArray])
    refine wpHeads_nil ?_
    refine wpTails_cons rfl ?_
    go_wp2_with fail
    refine (Has_S (rl := fun _ => 0) (((HX.out.1.mean c_b hbN).bel H1.out.2).ex (Ext.grown (grownBy_drew0 _))) c_a (by omega)).mono ?_
    rintro e W2 ⟨rfl, hq⟩
    have g2 : W1.grownBy W2 none := grownBy_trans (grownBy_drew0 _) (grownBy_qt hq)
    have H2 := Lib.hid (H1.out.2.grown g2 H1.out.2.size (by simp))
    go_wp2_with fail
    refine tail_mk (hS1.grown g2) ?_
    refine wpTails_one rfl ?_
    clear g2 hq hS1
    go_wp2_with fail
    refine thenQ_mk ?_
    go_wp2_with fail
    go_ret
    exact ⟨_, rfl, by simp [Holds], H2.out⟩
  · have ha : c_a < S.N := vN (by have h := HX.out.2.1.a; simpa using h)
    have h0 := satIn_new W S cv 2 c_a c_b c_f (.slice sa sn sc) c_s HX.out.2.2.2.2
    rw [show ((2 : Nat) : Int) = 2 from rfl] at h0
    have H0 := Lib.hid (And.intro h0 (below2' W (.cells #[.int .i64 (S.vars : Int), .int .i64 S.sites, .int .i64 S.fields, cv] 24) (.cells #[.int .i64 2, .int .i64 c_a, .int .i64 c_b, .int .i64 c_f, .slice sa sn sc] 39)))
    clear h0
    go_enter Try.func33, Try.ntmps33
    go_wp2_with fail
    refine wp_gen (fun Z => SatIn Z W.heap.size (W.heap.size + 1) S cv ⟨2, c_a, c_b, c_f, c_s⟩ (.slice sa sn sc) xa xs ∧ Below W.heap.size W Z) ⟨H0.out.1, H0.out.2⟩ ?_
    rintro W1 h1
    obtain ⟨bs, hbs⟩ : ∃ bs, bs = W.heap.size := ⟨_, rfl⟩
    obtain ⟨bc, hbc⟩ : ∃ bc, bc = W.heap.size + 1 := ⟨_, rfl⟩
    rw [← hbc, ← hbs] at h1 ⊢
    rw [hbs] at h1
    have hS1 := h1.1
    have H1 := Lib.hid h1
    clear h1 H0
    rw [← hbs] at hS1
    clear hbs hbc
    refine wp_region_mix [0, 1, 2, 3, 4, 5, 6, 7, 8, 9] [10, 11] (fun w' => SatIn w' bs bc S cv ⟨2, c_a, c_b, c_f, c_s⟩ (.slice sa sn sc) xa xs) (by kernel_rfl) (by kernel_rfl) (by kernel_rfl) (hS1.grown (grownBy_drew0 _)) ?_
    repeat (
      refine wpHeads_cons (v := ?_) rfl (Or.inl ⟨by rfl, ?_⟩) ?_
      rotate_left
      · (intro W hW; obtain ⟨⟨q1, q2, q3, q4, q5⟩, ⟨q6, q7, q8, q9⟩, q10, q11⟩ := hW; dsimp only at q1 q2 q3 q4; go_simp; try with_reducible rfl)
      simp only [Act.put, List.setIfInBounds_toArray])
    refine wpHeads_nil ?_
    refine wpTails_cons rfl ?_
    go_wp2_with fail
    refine (Within_S (rl := fun _ => 0) (((HX.out.1.mean c_a ha).bel H1.out.2).ex (Ext.grown (grownBy_drew0 _))) (((HX.out.1.mean c_b hbN).bel H1.out.2).ex (Ext.grown (grownBy_drew0 _)))).mono ?_
    rintro e W2 ⟨b, rfl, hb, hq⟩
    have g2 : W1.grownBy W2 none := grownBy_trans (grownBy_drew0 _) (grownBy_qt hq)
    have H2 := Lib.hid (And.intro hb (H1.out.2.grown g2 H1.out.2.size (by simp)))
    go_wp2_with fail
    refine tail_mk (hS1.grown g2) ?_
    refine wpTails_one rfl ?_
    clear g2 hq hS1 hb
    go_wp2_with fail
    refine thenQ_mk ?_
    go_wp2_with fail
    go_ret
    exact ⟨b, rfl, by rw [H2.out.1]; simp [Holds], H2.out.2⟩
  · have ha : c_a < S.N := vN (by have h := HX.out.2.1.a; simpa using h)
    have hf : c_f < S.fields := HX.out.2.1.f (.inl rfl)
    have h0 := satIn_new W S cv 3 c_a c_b c_f (.slice sa sn sc) c_s HX.out.2.2.2.2
    rw [show ((3 : Nat) : Int) = 3 from rfl] at h0
    have H0 := Lib.hid (And.intro h0 (below2' W (.cells #[.int .i64 (S.vars : Int), .int .i64 S.sites, .int .i64 S.fields, cv] 24) (.cells #[.int .i64 3, .int .i64 c_a, .int .i64 c_b, .int .i64 c_f, .slice sa sn sc] 39)))
    obtain ⟨⟨q1, q2, q3, q4, q5⟩, ⟨q6, q7, q8, q9⟩, q10, -⟩ := h0
    have q11 := q10 c_a ha
    clear q10
    go_enter Try.func33, Try.ntmps33
    go_wp2_with fail
    refine (List_S ((HX.out.1.mean c_a ha).bel H0.out.2)).mono ?_
    rintro e W5 ⟨a5, c5, L, rfl, o5, mL, pL, lL, q5⟩
    have hB5 : Below W.heap.size W W5 := H0.out.2.trans (q5.mono H0.out.2.size)
    have HB5 := Lib.hid hB5
    have hS5 := H0.out.1.grown (grownBy_below q5)
    have hix : ∀ (x : Int), 0 ≤ x → x < L.length → ∀ Z, (Instr.indexAt 37 (.slice a5 L.length c5) (.int .i64 x)).run Try.prog Z = .ok (.pointer (some ⟨blk a5, ofs a5 + x.toNat, none⟩)) Z := by
      obtain ⟨a6, c6, he6, -, hidx6, -⟩ := o5.lst.out1 sInt
      simp only [Value.slice.injEq] at he6
      obtain ⟨rfl, he6, rfl⟩ := he6
      intro x h0 h1
      have := hidx6 .i64 x h0 (by rw [← he6]; exact h1)
      rw [← he6] at this; exact this
    have H5 := Lib.hid (And.intro hS5 (And.intro o5.lst mL))
    clear o5 mL pL q5 hB5 hS5
    go_wp2_with fail
    obtain ⟨bs, hbs⟩ : ∃ bs, bs = W.heap.size := ⟨_, rfl⟩
    obtain ⟨bc, hbc⟩ : ∃ bc, bc = W.heap.size + 1 := ⟨_, rfl⟩
    have H5' := H5.out.1
    rw [← hbc, ← hbs] at H5' ⊢
    have H55 := Lib.hid H5'
    clear H5' hbc hbs
    clear q1 q2 q3 q4 q5 q6 q7 q8 q9 q11
    go_loopw [8, 47] (fun _ x wr => ∃ j : Nat, j ≤ L.length ∧ x = .int .i64 j ∧ Hid (Below W5.heap.size W5 wr ∧ ∀ i, i < j → ∀ x, p (S.cell (nth L i) c_f) x = true → p c_b x = true)) (fun _ x _ => L.length - (intOf x).toNat)
    case atStart => exact ⟨0, by omega, rfl, Below.refl _ _, fun i hi => by omega⟩
    case round =>
      obtain ⟨j, hj, rfl, hh⟩ := hrel
      by_cases hlt : j < L.length
      · have hys : nth L j < S.sites := HX.out.2.2.2.1 c_a _ ((H5.out.2.2 _).2 (nth_mem L j hlt))
        have hpa : p c_a (nth L j) = true := (H5.out.2.2 _).2 (nth_mem L j hlt)
        have hcl : wr.cell? ⟨blk a5, ofs a5 + j, none⟩ = some (.int .i64 ((nth L j : Nat) : Int)) := by
          obtain ⟨a6, c6, he6, -, -, hcell6, -⟩ := (H5.out.2.1.below hh.out.1).out1 sInt
          simp only [Value.slice.injEq] at he6
          obtain ⟨rfl, -, rfl⟩ := he6
          have := hcell6 j (by simpa using hlt)
          rw [this]; simp [nth, hlt]
        have hS5 := H55.out.grown (grownBy_below hh.out.1)
        have HF := Lib.hid (Syst.cell_lt hys hf)
        have HPA := Lib.hid hpa
        obtain ⟨y, hy⟩ : ∃ y, y = nth L j := ⟨_, rfl⟩
        rw [← hy] at hcl HF HPA hys
        have HYy := Lib.hid hy
        clear hy hpa
        go_wp2_with fail
        refine wp_region_mix [0, 1, 2, 3, 4, 8, 9, 10, 11, 12] [5, 6, 7, 13, 14] (fun w' => SatIn w' bs bc S cv ⟨3, c_a, c_b, c_f, c_s⟩ (.slice sa sn sc) xa xs) (by kernel_rfl) (by kernel_rfl) (by kernel_rfl) (hS5.grown (grownBy_drew0 _)) ?_
        repeat (
          refine wpHeads_cons (v := ?_) rfl (Or.inl ⟨by rfl, ?_⟩) ?_
          rotate_left
          · (intro W hW; obtain ⟨⟨q1, q2, q3, q4, q5⟩, ⟨q6, q7, q8, q9⟩, q10, q11⟩ := hW; dsimp only at q1 q2 q3 q4; go_simp; try with_reducible rfl)
          simp only [Act.put, List.setIfInBounds_toArray])
        refine wpHeads_nil ?_
        refine wpTails_cons rfl ?_
        go_wp2_with fail
        obtain ⟨nn, hnn, hcl7⟩ := cell_is S y c_f cv (wr.drew) (by omega) (by omega) (by omega) (by omega)
        refine hcl7.mono ?_
        rintro e W7 ⟨rfl, q7⟩
        have g7 : wr.grownBy W7 none := grownBy_trans (grownBy_drew0 _) (grownBy_below q7)
        have hS7 := hS5.grown g7
        have hnN : nn < S.N := by rw [hnn]; exact HF.out
        have c7 := hS7.2.2.1 nn hnN
        have H7 := Lib.hid (And.intro ((hh.out.1).grown g7 hh.out.1.size (by simp)) (And.intro hS7 hnn))
        clear g7 q7 hS5 hcl7 hnn
        go_wp2_with fail
        refine tail_mk H7.out.2.1 ?_
        refine wpTails_cons rfl ?_
        go_wp2_with fail
        refine tail_mk H7.out.2.1 ?_
        refine wpTails_cons rfl ?_
        go_wp2_with fail
        refine tail_mk H7.out.2.1 ?_
        refine wpTails_cons rfl ?_
        go_wp2_with fail
        refine (Within_S (rl := fun _ => 0) ((HX.out.1.mean nn hnN).bel (HB5.out.trans (H7.out.1.mono HB5.out.size))) ((HX.out.1.mean c_b hbN).bel (HB5.out.trans (H7.out.1.mono HB5.out.size)))).mono ?_
        rintro e W8 ⟨b, rfl, hb, hq8⟩
        have H8 := Lib.hid (And.intro hb (And.intro (H7.out.1.grown (grownBy_qt hq8) H7.out.1.size (by simp)) (H7.out.2.1.grown (grownBy_qt hq8))))
        clear hb hq8 c7 hS7
        go_wp2_with fail
        refine tail_mk H8.out.2.2 ?_
        refine wpTails_one rfl ?_
        cases b
        · go_wp2_with fail
          refine thenQ_mk ?_
          go_wp2_with fail
          go_ret
          refine ⟨false, rfl, ?_, HB5.out.trans (H8.out.2.1.mono HB5.out.size)⟩
          constructor
          · intro h; cases h
          · intro h
            exact H8.out.1.2 (fun x hx => by rw [H7.out.2.2] at *; exact h.2.2.1 rfl y HPA.out x hx)
        · go_wp2_with fail
          refine thenQ_mk ?_
          go_wp2_with fail
          go_roundw
          case rel => exact ⟨j + 1, by omega, by go_num, H8.out.2.1, fun i hi x hx => by
            by_cases e : i = j
            · subst e
              have h9 := H8.out.1.1 (by first | rfl | trivial) x
              rw [H7.out.2.2] at h9
              rw [← HYy.out] at hx; exact h9 hx
            · exact hh.out.2 i (by omega) x hx⟩
          case measure => simp [intOf]; omega
      · have HE := Lib.hid hh.out
        clear hh
        go_wp2_with fail
        go_ret
        refine ⟨true, rfl, ?_, HB5.out.trans (HE.out.1.mono HB5.out.size)⟩
        refine ⟨fun _ => ⟨fun h => by simp at h, fun h => by simp at h, fun _ y hy x hx => ?_, fun h => by simp at h, fun h => by simp at h⟩, fun _ => rfl⟩
        obtain ⟨i, hi, rfl⟩ := mem_nth ((H5.out.2.2 y).1 hy)
        exact HE.out.2 i (by omega) x hx
  · have ha : c_a < S.N := vN (by have h := HX.out.2.1.a; simpa using h)
    have hf : c_f < S.fields := HX.out.2.1.f (.inr rfl)
    have h0 := satIn_new W S cv 4 c_a c_b c_f (.slice sa sn sc) c_s HX.out.2.2.2.2
    rw [show ((4 : Nat) : Int) = 4 from rfl] at h0
    have H0 := Lib.hid (And.intro h0 (below2' W (.cells #[.int .i64 (S.vars : Int), .int .i64 S.sites, .int .i64 S.fields, cv] 24) (.cells #[.int .i64 4, .int .i64 c_a, .int .i64 c_b, .int .i64 c_f, .slice sa sn sc] 39)))
    obtain ⟨⟨q1, q2, q3, q4, q5⟩, ⟨q6, q7, q8, q9⟩, q10, -⟩ := h0
    have q11 := q10 c_b hbN
    clear q10
    go_enter Try.func33, Try.ntmps33
    go_wp2_with fail
    refine (List_S ((HX.out.1.mean c_b hbN).bel H0.out.2)).mono ?_
    rintro e W5 ⟨a5, c5, L, rfl, o5, mL, pL, lL, q5⟩
    have hB5 : Below W.heap.size W W5 := H0.out.2.trans (q5.mono H0.out.2.size)
    have HB5 := Lib.hid hB5
    have hS5 := H0.out.1.grown (grownBy_below q5)
    have hix : ∀ (x : Int), 0 ≤ x → x < L.length → ∀ Z, (Instr.indexAt 37 (.slice a5 L.length c5) (.int .i64 x)).run Try.prog Z = .ok (.pointer (some ⟨blk a5, ofs a5 + x.toNat, none⟩)) Z := by
      obtain ⟨a6, c6, he6, -, hidx6, -⟩ := o5.lst.out1 sInt
      simp only [Value.slice.injEq] at he6
      obtain ⟨rfl, he6, rfl⟩ := he6
      intro x h0 h1
      have := hidx6 .i64 x h0 (by rw [← he6]; exact h1)
      rw [← he6] at this; exact this
    have H5 := Lib.hid (And.intro hS5 (And.intro o5.lst mL))
    clear o5 mL pL q5 hB5 hS5
    go_wp2_with fail
    obtain ⟨bs, hbs⟩ : ∃ bs, bs = W.heap.size := ⟨_, rfl⟩
    obtain ⟨bc, hbc⟩ : ∃ bc, bc = W.heap.size + 1 := ⟨_, rfl⟩
    have H5' := H5.out.1
    rw [← hbc, ← hbs] at H5' ⊢
    have H55 := Lib.hid H5'
    clear H5' hbc hbs
    clear q1 q2 q3 q4 q5 q6 q7 q8 q9 q11
    go_loopw [10, 76] (fun _ x wr => ∃ j : Nat, j ≤ L.length ∧ x = .int .i64 j ∧ Hid (Below W5.heap.size W5 wr ∧ ∀ i, i < j → ∀ x, p c_a x = true → p (S.cell (nth L i) c_f) x = true)) (fun _ x _ => L.length - (intOf x).toNat)
    case atStart => exact ⟨0, by omega, rfl, Below.refl _ _, fun i hi => by omega⟩
    case round =>
      obtain ⟨j, hj, rfl, hh⟩ := hrel
      by_cases hlt : j < L.length
      · have hys : nth L j < S.sites := HX.out.2.2.2.1 c_b _ ((H5.out.2.2 _).2 (nth_mem L j hlt))
        have hpa : p c_b (nth L j) = true := (H5.out.2.2 _).2 (nth_mem L j hlt)
        have hcl : wr.cell? ⟨blk a5, ofs a5 + j, none⟩ = some (.int .i64 ((nth L j : Nat) : Int)) := by
          obtain ⟨a6, c6, he6, -, -, hcell6, -⟩ := (H5.out.2.1.below hh.out.1).out1 sInt
          simp only [Value.slice.injEq] at he6
          obtain ⟨rfl, -, rfl⟩ := he6
          have := hcell6 j (by simpa using hlt)
          rw [this]; simp [nth, hlt]
        have hS5 := H55.out.grown (grownBy_below hh.out.1)
        have HF := Lib.hid (Syst.cell_lt hys hf)
        have HPA := Lib.hid hpa
        obtain ⟨y, hy⟩ : ∃ y, y = nth L j := ⟨_, rfl⟩
        rw [← hy] at hcl HF HPA hys
        have HYy := Lib.hid hy
        clear hy hpa
        go_wp2_with fail
        refine wp_region_mix [0, 1, 2, 3, 4, 5, 6, 7, 8, 9] [10, 11, 12, 13, 14] (fun w' => SatIn w' bs bc S cv ⟨4, c_a, c_b, c_f, c_s⟩ (.slice sa sn sc) xa xs) (by kernel_rfl) (by kernel_rfl) (by kernel_rfl) (hS5.grown (grownBy_drew0 _)) ?_
        repeat (
          refine wpHeads_cons (v := ?_) rfl (Or.inl ⟨by rfl, ?_⟩) ?_
          rotate_left
          · (intro W hW; obtain ⟨⟨q1, q2, q3, q4, q5⟩, ⟨q6, q7, q8, q9⟩, q10, q11⟩ := hW; dsimp only at q1 q2 q3 q4; go_simp; try with_reducible rfl)
          simp only [Act.put, List.setIfInBounds_toArray])
        refine wpHeads_nil ?_
        refine wpTails_cons rfl ?_
        go_wp2_with fail
        obtain ⟨nn, hnn, hcl7⟩ := cell_is S y c_f cv (wr.drew) (by omega) (by omega) (by omega) (by omega)
        refine hcl7.mono ?_
        rintro e W7 ⟨rfl, q7⟩
        have g7 : wr.grownBy W7 none := grownBy_trans (grownBy_drew0 _) (grownBy_below q7)
        have hS7 := hS5.grown g7
        have hnN : nn < S.N := by rw [hnn]; exact HF.out
        have c7 := hS7.2.2.1 nn hnN
        have H7 := Lib.hid (And.intro ((hh.out.1).grown g7 hh.out.1.size (by simp)) (And.intro hS7 hnn))
        clear g7 q7 hS5 hcl7 hnn
        go_wp2_with fail
        refine tail_mk H7.out.2.1 ?_
        refine wpTails_cons rfl ?_
        go_wp2_with fail
        refine tail_mk H7.out.2.1 ?_
        refine wpTails_cons rfl ?_
        go_wp2_with fail
        refine tail_mk H7.out.2.1 ?_
        refine wpTails_cons rfl ?_
        go_wp2_with fail
        refine (Within_S (rl := fun _ => 0) ((HX.out.1.mean c_a ha).bel (HB5.out.trans (H7.out.1.mono HB5.out.size))) ((HX.out.1.mean nn hnN).bel (HB5.out.trans (H7.out.1.mono HB5.out.size)))).mono ?_
        rintro e W8 ⟨b, rfl, hb, hq8⟩
        have H8 := Lib.hid (And.intro hb (And.intro (H7.out.1.grown (grownBy_qt hq8) H7.out.1.size (by simp)) (H7.out.2.1.grown (grownBy_qt hq8))))
        clear hb hq8 c7 hS7
        go_wp2_with fail
        refine tail_mk H8.out.2.2 ?_
        refine wpTails_one rfl ?_
        cases b
        · go_wp2_with fail
          refine thenQ_mk ?_
          go_wp2_with fail
          go_ret
          refine ⟨false, rfl, ?_, HB5.out.trans (H8.out.2.1.mono HB5.out.size)⟩
          constructor
          · intro h; cases h
          · intro h
            exact H8.out.1.2 (fun x hx => by rw [H7.out.2.2] at *; exact h.2.2.2.1 rfl y HPA.out x hx)
        · go_wp2_with fail
          refine thenQ_mk ?_
          go_wp2_with fail
          go_roundw
          case rel => exact ⟨j + 1, by omega, by go_num, H8.out.2.1, fun i hi x hx => by
            by_cases e : i = j
            · subst e
              have h9 := H8.out.1.1 (by first | rfl | trivial) x
              rw [H7.out.2.2] at h9
              rw [← HYy.out]; exact h9 hx
            · exact hh.out.2 i (by omega) x hx⟩
          case measure => simp [intOf]; omega
      · have HE := Lib.hid hh.out
        clear hh
        go_wp2_with fail
        go_ret
        refine ⟨true, rfl, ?_, HB5.out.trans (HE.out.1.mono HB5.out.size)⟩
        refine ⟨fun _ => ⟨fun h => by simp at h, fun h => by simp at h, fun h => by simp at h, fun _ y hy x hx => ?_, fun h => by simp at h⟩, fun _ => rfl⟩
        obtain ⟨i, hi, rfl⟩ := mem_nth ((H5.out.2.2 y).1 hy)
        exact HE.out.2 i (by omega) x hx
  · have ha : c_a < S.N := vN (by have h := HX.out.2.1.a; simpa using h)
    have h0 := satIn_new W S cv 5 c_a c_b c_f (.slice sa sn sc) c_s HX.out.2.2.2.2
    rw [show ((5 : Nat) : Int) = 5 from rfl] at h0
    have H0 := Lib.hid (And.intro h0 (below2' W (.cells #[.int .i64 (S.vars : Int), .int .i64 S.sites, .int .i64 S.fields, cv] 24) (.cells #[.int .i64 5, .int .i64 c_a, .int .i64 c_b, .int .i64 c_f, .slice sa sn sc] 39)))
    obtain ⟨⟨q1, q2, q3, q4, q5⟩, ⟨q6, q7, q8, q9⟩, q10, -⟩ := h0
    clear q10
    go_enter Try.func33, Try.ntmps33
    go_wp2_with fail
    refine (Of_S (rl := fun _ => 0) (HX.out.2.2.1.below H0.out.2) (fun x hx => by have := HX.out.2.1.s x hx; omega) (fun _ _ => rfl)).mono ?_
    rintro e W5 ⟨oa, on, oc, os, rfl, hos, hosm, q5'⟩
    have hB5 : Below W.heap.size W W5 := H0.out.2.trans (q5'.mono H0.out.2.size)
    have hS5 := H0.out.1.grown (grownBy_below q5')
    have H5 := Lib.hid (And.intro hB5 (And.intro hS5 (And.intro hos hosm)))
    clear q1 q2 q3 q4 q5 q6 q7 q8 q9 hB5 hos hosm q5'
    obtain ⟨bs, hbs⟩ : ∃ bs, bs = W.heap.size := ⟨_, rfl⟩
    obtain ⟨bc, hbc⟩ : ∃ bc, bc = W.heap.size + 1 := ⟨_, rfl⟩
    rw [← hbc, ← hbs] at hS5 ⊢
    clear hbc hbs
    go_wp2_with fail
    refine wp_region_mix [0, 1, 2, 3, 4, 5, 7, 8, 9, 10, 11] [6, 12, 13] (fun w' => SatIn w' bs bc S cv ⟨5, c_a, c_b, c_f, c_s⟩ (.slice sa sn sc) xa xs) (by kernel_rfl) (by kernel_rfl) (by kernel_rfl) (hS5.grown (grownBy_drew0 _)) ?_
    repeat (
      refine wpHeads_cons (v := ?_) rfl (Or.inl ⟨by rfl, ?_⟩) ?_
      rotate_left
      · (intro W hW; obtain ⟨⟨q1, q2, q3, q4, q5⟩, ⟨q6, q7, q8, q9⟩, q10, q11⟩ := hW; dsimp only at q1 q2 q3 q4; go_simp; try with_reducible rfl)
      simp only [Act.put, List.setIfInBounds_toArray])
    refine wpHeads_nil ?_
    refine wpTails_cons rfl ?_
    go_wp2_with fail
    refine (Both_S (rl := fun _ => 0) (((HX.out.1.mean c_a ha).bel H5.out.1).ex (Ext.grown (grownBy_drew0 _))) (H5.out.2.2.1.ex (Ext.grown (grownBy_drew0 _))) (fun _ _ => rfl)).mono ?_
    rintro e W7 ⟨a7, n7, c7, rfl, o7, q7⟩
    have g7 : W5.grownBy W7 none := grownBy_trans (grownBy_drew0 _) (grownBy_below q7)
    have hS7 := hS5.grown g7
    have hB7 := H5.out.1.grown g7 H5.out.1.size (by simp)
    have H7 := Lib.hid (And.intro hB7 (And.intro o7 hS7))
    clear g7 q7 hB7 o7 hS5 hS7
    go_wp2_with fail
    refine tail_mk H7.out.2.2 ?_
    refine wpTails_cons rfl ?_
    go_wp2_with fail
    refine (Within_S (rl := fun _ => 0) H7.out.2.1 ((HX.out.1.mean c_b hbN).bel H7.out.1)).mono ?_
    rintro e W8 ⟨b, rfl, hb, hq8⟩
    have H8 := Lib.hid (And.intro hb (And.intro (H7.out.1.grown (grownBy_qt hq8) H7.out.1.size (by simp)) (H7.out.2.2.grown (grownBy_qt hq8))))
    clear hb hq8
    go_wp2_with fail
    refine tail_mk H8.out.2.2 ?_
    refine wpTails_one rfl ?_
    go_wp2_with fail
    refine thenQ_mk ?_
    go_wp2_with fail
    go_ret
    refine ⟨b, rfl, ?_, H8.out.2.1⟩
    rw [H8.out.1]
    constructor
    · intro h
      refine ⟨fun h => by simp at h, fun h => by simp at h, fun h => by simp at h, fun h => by simp at h, fun _ x hx hs => h x ?_⟩
      simp only [Bool.and_eq_true]
      exact ⟨hx, (H5.out.2.2.2 x).2 hs⟩
    · intro h x hx
      simp only [Bool.and_eq_true] at hx
      exact h.2.2.2.2 rfl x hx.1 ((H5.out.2.2.2 x).1 hx.2)
end Go.Proofs.Ytdlfbkmjemamhaa
