/- Contracts of Points and Ints of package observe. -/
import Derived.Test.YtnklnklkblgnfaaOba
namespace Go.Proofs.Ytnklnklkblgnfaa
open Go.RowKit Go.Dfl Go.Gra Go.Obs Go.Sort Go.Maps
theorem sOb : SliceOf Try.prog 22 50 (.agg #[.int .i64 0, .int .i64 0, .int .i64 0, .int .i64 0, .slice none 0 0]) 5 56 := ⟨Try.underlying22, info_parts (P := Try.prog) (e := 50) (by kernel_rfl)⟩
theorem sVl : SliceOf Try.prog 48 56 (.agg #[.int .i64 0, .int .i64 0, .int .i64 0]) 3 24 := ⟨Try.underlying48, info_parts (P := Try.prog) (e := 56) (by kernel_rfl)⟩
/-- An execution as a value, in memory. -/
def ExIn (W : World) (ov : Value) (x : Ex) : Prop := inI x.e ∧ InS vOb W ov x.o
theorem ExIn.below {W W' : World} {ov : Value} {x : Ex} (h : ExIn W ov x) (hb : Below W.heap.size W W') : ExIn W' ov x := ⟨h.1, h.2.below hb⟩
abbrev exV (x : Ex) (ov : Value) : Value := .agg #[.int .i64 x.e, ov]
/-- All values of the steps, counted. -/
def valN (x : Ex) : Nat := (x.o.map fun o => o.vs.length).sum
/-- The step i, in memory. -/
theorem InS.ob {W : World} {ov : Value} {l : List Ob} (h : InS vOb W ov l) : ∃ oa oc, ov = .slice oa l.length oc ∧ l.length ≤ 9223372036854775807 ∧
    (∀ x : Int, 0 ≤ x → x < l.length → ∀ W, (Instr.indexAt 22 (.slice oa l.length oc) (.int .i64 x)).run Try.prog W = .ok (.pointer (some ⟨blk oa, ofs oa + x.toNat * 5, none⟩)) W) ∧
    ∀ i, i < l.length → blk oa < W.heap.size ∧ ∃ vv, (inI (nth l i).f ∧ inI (nth l i).i ∧ inI (nth l i).fr ∧ inI (nth l i).c) ∧ InS vVal W vv (nth l i).vs ∧ ∀ Z, Below W.heap.size W Z → Z.cell? ⟨blk oa, ofs oa + i * 5, none⟩ = some (.int .i64 (nth l i).f) ∧ Z.cell? ⟨blk oa, ofs oa + i * 5 + 1, none⟩ = some (.int .i64 (nth l i).i) ∧ Z.cell? ⟨blk oa, ofs oa + i * 5 + 2, none⟩ = some (.int .i64 (nth l i).fr) ∧ Z.cell? ⟨blk oa, ofs oa + i * 5 + 3, none⟩ = some (.int .i64 (nth l i).c) ∧ Z.cell? ⟨blk oa, ofs oa + i * 5 + 4, none⟩ = some vv := by
  obtain ⟨oa, oc, he, hl, hi, hc⟩ := InS.out h sOb
  refine ⟨oa, oc, he, hl, hi, fun i hil => ?_⟩
  obtain ⟨h1, cs, ⟨vv, rfl, hb, hv⟩, h3⟩ := hc i hil
  exact ⟨h1, vv, hb, hv, fun Z hZ => ⟨h3 Z hZ 0 (by decide), h3 Z hZ 1 (by decide), h3 Z hZ 2 (by decide), h3 Z hZ 3 (by decide), h3 Z hZ 4 (by decide)⟩⟩
theorem InS.vl {W : World} {v : Value} {l : List Vl} (h : InS vVal W v l) : ∃ a c, v = .slice a l.length c ∧ l.length ≤ 9223372036854775807 ∧
    (∀ x : Int, 0 ≤ x → x < l.length → ∀ W, (Instr.indexAt 48 (.slice a l.length c) (.int .i64 x)).run Try.prog W = .ok (.pointer (some ⟨blk a, ofs a + x.toNat * 3, none⟩)) W) ∧
    ∀ i, i < l.length → blk a < W.heap.size ∧ (inI (nth l i).k ∧ inI (nth l i).n ∧ inI (nth l i).s) ∧ ∀ Z, Below W.heap.size W Z → Z.cell? ⟨blk a, ofs a + i * 3, none⟩ = some (.int .i64 (nth l i).k) ∧ Z.cell? ⟨blk a, ofs a + i * 3 + 1, none⟩ = some (.int .i64 (nth l i).n) ∧ Z.cell? ⟨blk a, ofs a + i * 3 + 2, none⟩ = some (.int .i64 (nth l i).s) := by
  obtain ⟨oa, oc, he, hl, hi, hc⟩ := InS.out h sVl
  refine ⟨oa, oc, he, hl, hi, fun i hil => ?_⟩
  obtain ⟨h1, cs, ⟨rfl, hb⟩, h3⟩ := hc i hil
  exact ⟨h1, hb, fun Z hZ => ⟨h3 Z hZ 0 (by decide), h3 Z hZ 1 (by decide), h3 Z hZ 2 (by decide)⟩⟩
/-- All facts. -/
def allP (x : Ex) : List (Int × Int × Int) := x.o.flatMap fun o => ptL o o.vs.length
def allN (x : Ex) : List (Int × Int × Int × Int) := x.o.flatMap fun o => inL o o.vs.length
theorem upto_all {β : Type} (F : Ob → Nat → List β) (os : List Ob) (h0 : ∀ o, F o 0 = []) : upto F os os.length 0 = os.flatMap fun o => F o o.vs.length := by
  unfold upto; rw [List.take_length, h0, List.append_nil]
theorem upto_more {β : Type} (F : Ob → Nat → List β) (os : List Ob) (i k : Nat) (x : List β) (h : F (nth os i) (k + 1) = F (nth os i) k ++ x) : upto F os i (k + 1) = upto F os i k ++ x := by
  unfold upto; rw [h, List.append_assoc]
theorem ptL_in {o : Ob} (hf : inI o.f) (hv : ∀ i, i < o.vs.length → inI (nth o.vs i).s) (hl : (o.vs.length : Int) ≤ 9223372036854775807) {x : Int × Int × Int} {k : Nat} (hk : k ≤ o.vs.length) (hx : x ∈ ptL o k) : inI x.1 ∧ inI x.2.1 ∧ inI x.2.2 := by
  unfold ptL at hx
  obtain ⟨v, hv1, he⟩ := List.mem_filterMap.1 hx
  rw [List.mem_range] at hv1
  split at he
  · simp only [Option.some.injEq] at he
    subst he
    exact ⟨hf, by unfold inI; dsimp only; omega, hv v (by omega)⟩
  · cases he
theorem inL_in {o : Ob} (hf : inI o.f) (hi : inI o.i) (hv : ∀ i, i < o.vs.length → inI (nth o.vs i).n) (hl : (o.vs.length : Int) ≤ 9223372036854775807) {x : Int × Int × Int × Int} {k : Nat} (hk : k ≤ o.vs.length) (hx : x ∈ inL o k) : inI x.1 ∧ inI x.2.1 ∧ inI x.2.2.1 ∧ inI x.2.2.2 := by
  unfold inL at hx
  obtain ⟨v, hv1, he⟩ := List.mem_filterMap.1 hx
  rw [List.mem_range] at hv1
  split at he
  · simp only [Option.some.injEq] at he
    subst he
    exact ⟨hf, hi, by unfold inI; dsimp only; omega, hv v (by omega)⟩
  · cases he
theorem flat_len9 {β : Type} {F : Ob → Nat → List β} (hF : ∀ o k, (F o k).length ≤ k) : ∀ os : List Ob, (os.flatMap fun o => F o o.vs.length).length ≤ (os.map fun o => o.vs.length).sum
  | [] => by simp
  | o :: os => by
    have := flat_len9 hF os
    have := hF o o.vs.length
    rw [List.flatMap_cons, List.length_append, List.map_cons, List.sum_cons]
    omega
set_option maxHeartbeats 3200000 in
set_option maxRecDepth 100000 in
theorem points_any (x : Ex) (ov : Value) (W : World) (h : ExIn W ov x) (hn : valN x ≤ 1048576) : Calls Try.prog 7 #[exV x ov] W (ascPR (allP x) W) := by
  obtain ⟨oa, oc, rfl, hlen, hidx, hcell⟩ := InS.ob h.2
  have HX := Lib.hid (And.intro h hn)
  have HI := Lib.hid hidx
  have HC := Lib.hid hcell
  have hal := (Below.refl W.heap.size W).alloc (Nat.le_refl _) (.cells #[.int .i64 x.e, .slice oa x.o.length oc] 24)
  have hbx := cells_new (W := W) (cs := [.int .i64 x.e, .slice oa x.o.length oc]) (t := 24) rfl
  have H0 := Lib.hid (And.intro hal (hbx 1 _ rfl))
  clear h hn hidx hcell hal hbx
  have hmm := @run_makeMap Try.prog
  go_enter Try.func7, Try.ntmps7
  go_upto_region 2 with fail
  have hset := SetT.made Try.prog 53 4 (W.alloc (.cells #[.int .i64 x.e, .slice oa x.o.length oc] 24)) (B := W.heap.size + 1) (by rw [World.size_alloc])
  have hbx := (grownBy_alloc (W.alloc (.cells #[.int .i64 x.e, .slice oa x.o.length oc] 24)) (.map #[] 0)).cell H0.out.2 (by simp)
  have hbl := H0.out.1.alloc H0.out.1.size (.map #[] 0)
  refine gen_code (fun Z => SetT Try.prog 53 4 Z (W.heap.size + 1) 0 [] ∧ Z.cell? ⟨W.heap.size, 1, none⟩ = some (.slice oa x.o.length oc) ∧ Below W.heap.size W Z) ⟨hset, hbx, hbl⟩ ?_
  intro W1 hz
  obtain ⟨mb, hmb⟩ : ∃ mb, mb = W.heap.size + 1 := ⟨_, rfl⟩
  rw [← hmb] at hz ⊢
  have h1 := hz.2.1
  have H1 : Hid (SetT Try.prog 53 4 W1 mb (upto ptL x.o 0 0).length ((upto ptL x.o 0 0).map pv) ∧ Below W.heap.size W W1) := Lib.hid ⟨hz.1, hz.2.2⟩
  have HM := Lib.hid hmb
  clear hset hbx hbl hz hmb hmm H0
  go_wp2_with fail
  clear h1
  go_loopw [12] (fun y wr => ∃ i : Nat, i ≤ x.o.length ∧ y = .int .i64 (i : Int) ∧ Hid (SetT Try.prog 53 4 wr mb (upto ptL x.o i 0).length ((upto ptL x.o i 0).map pv) ∧ Below W.heap.size W wr)) (fun y _ => x.o.length - (intOf y).toNat)
  case atStart => exact ⟨0, by omega, rfl, H1.out⟩
  case round =>
    obtain ⟨i, hi, rfl, hh⟩ := hrel
    have HL := Lib.hid hh.out
    clear hh
    by_cases hil : i < x.o.length
    · have hili : (i : Int) < (x.o.length : Int) := by omega
      obtain ⟨hbl, vv, hbd, hvv, hcs⟩ := HC.out i hil
      obtain ⟨o0, o1, o2, o3, o4⟩ := hcs wr HL.out.2
      have j1 := HI.out (i : Int) (by omega) (by omega)
      rw [Int.toNat_natCast] at j1
      obtain ⟨va, vc, rfl, hvl, hvi, hvc⟩ := InS.vl hvv
      obtain ⟨o, ho⟩ : ∃ o, o = nth x.o i := ⟨_, rfl⟩
      have hle : ∀ k, k ≤ o.vs.length → (upto ptL x.o i k).length ≤ 1048576 := fun k hk => Nat.le_trans (upto_len ptL_len x.o hil (by rw [← ho]; exact hk)) HX.out.2
      rw [← ho] at o0 o1 o2 o3 o4 hbd hvl hvi hvc
      have HO := Lib.hid (And.intro ho (And.intro hbd (And.intro hvi (And.intro hvc hle))))
      clear hbl hvv hcs ho hbd hvi hvc hle
      go_upto_region 5 with fail
      have hbA := HL.out.2.alloc HL.out.2.size (.cells #[.int .i64 o.f, .int .i64 o.i, .int .i64 o.fr, .int .i64 o.c, .slice va o.vs.length vc] 50)
      have hcn := cells_new (W := wr) (cs := [.int .i64 o.f, .int .i64 o.i, .int .i64 o.fr, .int .i64 o.c, .slice va o.vs.length vc]) (t := 50) rfl
      have hsA := HL.out.1.kept (grownBy_alloc wr (.cells #[.int .i64 o.f, .int .i64 o.i, .int .i64 o.fr, .int .i64 o.c, .slice va o.vs.length vc] 50)) (by simp)
      have hmlt := HL.out.1.lt
      refine gen_code (fun Z => SetT Try.prog 53 4 Z mb (upto ptL x.o i 0).length ((upto ptL x.o i 0).map pv) ∧ Below W.heap.size W Z ∧ Z.cell? ⟨wr.heap.size, 0, none⟩ = some (.int .i64 o.f) ∧ Z.cell? ⟨wr.heap.size, 1, none⟩ = some (.int .i64 o.i) ∧ Z.cell? ⟨wr.heap.size, 4, none⟩ = some (.slice va o.vs.length vc)) ⟨hsA, hbA, hcn 0 _ rfl, hcn 1 _ rfl, hcn 4 _ rfl⟩ ?_
      intro W2 hz
      obtain ⟨ob, hob⟩ : ∃ ob, ob = wr.heap.size := ⟨_, rfl⟩
      rw [← hob] at hz ⊢
      have h4 := hz.2.2.2.2
      have H2 := Lib.hid (And.intro (And.intro hz.1 hz.2.1) (And.intro (And.intro hz.2.2.1 hz.2.2.2.1) (show mb < ob by omega)))
      clear hbA hcn hsA hz hob hmlt o0 o1 o2 o3 o4 j1
      go_wp2_with fail
      clear h4
      go_loopw [19] (fun y w2 => ∃ k : Nat, k ≤ o.vs.length ∧ y = .int .i64 (k : Int) ∧ Hid (SetT Try.prog 53 4 w2 mb (upto ptL x.o i k).length ((upto ptL x.o i k).map pv) ∧ Below W.heap.size W w2 ∧ (w2.cell? ⟨ob, 0, none⟩ = some (.int .i64 o.f) ∧ w2.cell? ⟨ob, 1, none⟩ = some (.int .i64 o.i)))) (fun y _ => o.vs.length - (intOf y).toNat)
      case atStart => exact ⟨0, by omega, rfl, H2.out.1.1, H2.out.1.2, H2.out.2.1⟩
      case round =>
        obtain ⟨k, hk, rfl, hh⟩ := hrel
        have HK := Lib.hid hh.out
        clear hh
        by_cases hkl : k < o.vs.length
        · have hkli : (k : Int) < (o.vs.length : Int) := by omega
          obtain ⟨hb1, hb2, hcs⟩ := HO.out.2.2.2.1 k hkl
          obtain ⟨o0, o1, o2⟩ := hcs wr HK.out.2.1
          have j1 := HO.out.2.2.1 (k : Int) (by omega) (by omega)
          rw [Int.toNat_natCast] at j1
          obtain ⟨vl, hvl⟩ : ∃ vl, vl = nth o.vs k := ⟨_, rfl⟩
          rw [← hvl] at o0 o1 o2 hb2
          have HV := Lib.hid (And.intro hvl hb2)
          clear hb1 hb2 hcs hvl
          go_upto_region 8 with fail
          have hbA := HK.out.2.1.alloc HK.out.2.1.size (.cells #[.int .i64 vl.k, .int .i64 vl.n, .int .i64 vl.s] 56)
          have hcn := cells_new (W := wr) (cs := [.int .i64 vl.k, .int .i64 vl.n, .int .i64 vl.s]) (t := 56) rfl
          have hgA := grownBy_alloc wr (.cells #[.int .i64 vl.k, .int .i64 vl.n, .int .i64 vl.s] 56)
          have hsA := HK.out.1.kept hgA (by simp)
          have hmlt := HK.out.1.lt
          refine gen_code (fun Z => SetT Try.prog 53 4 Z mb (upto ptL x.o i k).length ((upto ptL x.o i k).map pv) ∧ Below W.heap.size W Z ∧ (Z.cell? ⟨ob, 0, none⟩ = some (.int .i64 o.f) ∧ Z.cell? ⟨ob, 1, none⟩ = some (.int .i64 o.i)) ∧ Z.cell? ⟨wr.heap.size, 0, none⟩ = some (.int .i64 vl.k) ∧ Z.cell? ⟨wr.heap.size, 1, none⟩ = some (.int .i64 vl.n) ∧ Z.cell? ⟨wr.heap.size, 2, none⟩ = some (.int .i64 vl.s)) ⟨hsA, hbA, ⟨hgA.cell HK.out.2.2.1 (by simp), hgA.cell HK.out.2.2.2 (by simp)⟩, hcn 0 _ rfl, hcn 1 _ rfl, hcn 2 _ rfl⟩ ?_
          intro W3 hz
          obtain ⟨vb, hvb⟩ : ∃ vb, vb = wr.heap.size := ⟨_, rfl⟩
          rw [← hvb] at hz ⊢
          obtain ⟨v0, v1, v2⟩ := hz.2.2.2
          obtain ⟨f0, f1⟩ := hz.2.2.1
          have HZ := Lib.hid (And.intro hz.1 (And.intro hz.2.1 hz.2.2.1))
          clear hbA hcn hsA hgA hz hvb hmlt o0 o1 o2 j1
          by_cases hkd : vl.k = 3
          · have w1 : (vl.k == 3) = true := by simpa using hkd
            have hmore := ptL_yes (o := o) (k := k) (by rw [← HV.out.1]; exact hkd)
            have hup := upto_more ptL x.o i k [(o.f, (k : Int), vl.s)] (by rw [← HO.out.1, hmore, ← HV.out.1])
            have hlen9 := HO.out.2.2.2.2 k (by omega)
            have hn9 : (upto ptL x.o i k).length < maxLen := by unfold maxLen; omega
            obtain ⟨kl, hkl9⟩ := pkWf (o.f, (k : Int), vl.s) ⟨HO.out.2.1.1, by unfold inI; dsimp only; omega, HV.out.2.2.2⟩
            have HU := Lib.hid (And.intro hup hkl9)
            clear hkd hmore hup hkl9
            go_wp2_with (at_mapUpdate; refine wp_setPut HZ.out.1 rfl _ _ _ rfl pkKeyed Try.underlying54 Try.underlying4 rfl rfl hn9 (pv (o.f, (k : Int), vl.s)) kl rfl HU.out.2 ?_; intro W4 set4 g4; have H4 := Lib.hid (And.intro set4 g4); clear set4 g4)
            have hmm : ∀ q, some mb = some q → W.heap.size ≤ q := fun q e9 => by have := HM.out; have := Option.some.inj e9; omega
            have hob : some ob ≠ some mb := fun e9 => by have := H2.out.2.2; have := Option.some.inj e9; omega
            have H5 : Hid (SetT Try.prog 53 4 W4 mb (upto ptL x.o i (k + 1)).length ((upto ptL x.o i (k + 1)).map pv) ∧ Below W.heap.size W W4 ∧ (W4.cell? ⟨ob, 0, none⟩ = some (.int .i64 o.f) ∧ W4.cell? ⟨ob, 1, none⟩ = some (.int .i64 o.i))) := Lib.hid (by
              rw [HU.out.1, List.map_append, List.length_append]
              exact ⟨H4.out.1, HZ.out.2.1.grown H4.out.2 HZ.out.2.1.size hmm, H4.out.2.cell HZ.out.2.2.1 hob, H4.out.2.cell HZ.out.2.2.2 hob⟩)
            clear hmm hob
            go_roundw
            case rel => exact ⟨k + 1, by omega, by go_num, H5.out⟩
            case measure => simp [intOf]; omega
          · have w1 : (vl.k == 3) = false := by simpa using hkd
            have hmore := ptL_no (o := o) (k := k) (by rw [← HV.out.1]; exact hkd)
            have hup := upto_more ptL x.o i k [] (by rw [← HO.out.1, hmore, List.append_nil])
            rw [List.append_nil] at hup
            have HU := Lib.hid hup
            clear hkd hmore hup
            go_wp2_with fail
            go_roundw
            case rel => exact ⟨k + 1, by omega, by go_num, by rw [HU.out]; exact HZ.out⟩
            case measure => simp [intOf]; omega
        · obtain rfl : k = o.vs.length := by omega
          have HU := Lib.hid (upto_next ptL x.o hil (ptL_zero _))
          clear hkl
          go_wp2_with fail
          go_roundw
          case rel => exact ⟨i + 1, by omega, by go_num, by rw [HU.out, ← HO.out.1]; exact ⟨HK.out.1, HK.out.2.1⟩⟩
          case measure => simp [intOf]; omega
    · obtain rfl : i = x.o.length := by omega
      have hall := upto_all ptL x.o ptL_zero
      have hlen9 : (upto ptL x.o x.o.length 0).length ≤ 1048576 := by
        rw [hall]
        exact Nat.le_trans (flat_len9 ptL_len x.o) HX.out.2
      have hs := HL.out.1
      have hin : ∀ y ∈ upto ptL x.o x.o.length 0, inI y.1 ∧ inI y.2.1 ∧ inI y.2.2 := fun y hy => by
        rw [hall] at hy
        obtain ⟨o, ho, hy⟩ := List.mem_flatMap.1 hy
        obtain ⟨t, ht, rfl⟩ := mem_nth ho
        obtain ⟨-, vv, hbd, hvv, -⟩ := HC.out t ht
        obtain ⟨va, vc, -, hvl, -, hvc⟩ := InS.vl hvv
        exact ptL_in hbd.1 (fun j hj => (hvc j hj).2.1.2.2) (by omega) (Nat.le_refl _) hy
      have ha := ascP_any mb _ (upto ptL x.o x.o.length 0) wr hs (by omega) (by omega) hin
      rw [hall] at ha
      have HA := Lib.hid ha
      clear hall hlen9 hs hin ha hil
      go_wp2_with fail
      refine HA.out.mono ?_
      rintro e W5 ⟨a, c, L, rfl, ho, hp, hm, hb⟩
      have H5 := Lib.hid (And.intro (ho.mono9 HL.out.2.size) (And.intro hp (And.intro hm (HL.out.2.trans (hb.mono HL.out.2.size)))))
      clear ho hp hm hb HA
      go_wp2_with fail
      go_ret
      exact ⟨a, c, L, rfl, H5.out.1, H5.out.2.1, H5.out.2.2.1, H5.out.2.2.2⟩
set_option maxHeartbeats 3200000 in
set_option maxRecDepth 100000 in
theorem ints_any (x : Ex) (ov : Value) (W : World) (h : ExIn W ov x) (hn : valN x ≤ 1048576) : Calls Try.prog 10 #[exV x ov] W (ascNR (allN x) W) := by
  obtain ⟨oa, oc, rfl, hlen, hidx, hcell⟩ := InS.ob h.2
  have HX := Lib.hid (And.intro h hn)
  have HI := Lib.hid hidx
  have HC := Lib.hid hcell
  have hal := (Below.refl W.heap.size W).alloc (Nat.le_refl _) (.cells #[.int .i64 x.e, .slice oa x.o.length oc] 24)
  have hbx := cells_new (W := W) (cs := [.int .i64 x.e, .slice oa x.o.length oc]) (t := 24) rfl
  have H0 := Lib.hid (And.intro hal (hbx 1 _ rfl))
  clear h hn hidx hcell hal hbx
  have hmm := @run_makeMap Try.prog
  go_enter Try.func10, Try.ntmps10
  go_upto_region 2 with fail
  have hset := SetT.made Try.prog 32 4 (W.alloc (.cells #[.int .i64 x.e, .slice oa x.o.length oc] 24)) (B := W.heap.size + 1) (by rw [World.size_alloc])
  have hbx := (grownBy_alloc (W.alloc (.cells #[.int .i64 x.e, .slice oa x.o.length oc] 24)) (.map #[] 0)).cell H0.out.2 (by simp)
  have hbl := H0.out.1.alloc H0.out.1.size (.map #[] 0)
  refine gen_code (fun Z => SetT Try.prog 32 4 Z (W.heap.size + 1) 0 [] ∧ Z.cell? ⟨W.heap.size, 1, none⟩ = some (.slice oa x.o.length oc) ∧ Below W.heap.size W Z) ⟨hset, hbx, hbl⟩ ?_
  intro W1 hz
  obtain ⟨mb, hmb⟩ : ∃ mb, mb = W.heap.size + 1 := ⟨_, rfl⟩
  rw [← hmb] at hz ⊢
  have h1 := hz.2.1
  have H1 : Hid (SetT Try.prog 32 4 W1 mb (upto inL x.o 0 0).length ((upto inL x.o 0 0).map nv) ∧ Below W.heap.size W W1) := Lib.hid ⟨hz.1, hz.2.2⟩
  have HM := Lib.hid hmb
  clear hset hbx hbl hz hmb hmm H0
  go_wp2_with fail
  clear h1
  go_loopw [12] (fun y wr => ∃ i : Nat, i ≤ x.o.length ∧ y = .int .i64 (i : Int) ∧ Hid (SetT Try.prog 32 4 wr mb (upto inL x.o i 0).length ((upto inL x.o i 0).map nv) ∧ Below W.heap.size W wr)) (fun y _ => x.o.length - (intOf y).toNat)
  case atStart => exact ⟨0, by omega, rfl, H1.out⟩
  case round =>
    obtain ⟨i, hi, rfl, hh⟩ := hrel
    have HL := Lib.hid hh.out
    clear hh
    by_cases hil : i < x.o.length
    · have hili : (i : Int) < (x.o.length : Int) := by omega
      obtain ⟨hbl, vv, hbd, hvv, hcs⟩ := HC.out i hil
      obtain ⟨o0, o1, o2, o3, o4⟩ := hcs wr HL.out.2
      have j1 := HI.out (i : Int) (by omega) (by omega)
      rw [Int.toNat_natCast] at j1
      obtain ⟨va, vc, rfl, hvl, hvi, hvc⟩ := InS.vl hvv
      obtain ⟨o, ho⟩ : ∃ o, o = nth x.o i := ⟨_, rfl⟩
      have hle : ∀ k, k ≤ o.vs.length → (upto inL x.o i k).length ≤ 1048576 := fun k hk => Nat.le_trans (upto_len inL_len x.o hil (by rw [← ho]; exact hk)) HX.out.2
      rw [← ho] at o0 o1 o2 o3 o4 hbd hvl hvi hvc
      have HO := Lib.hid (And.intro ho (And.intro hbd (And.intro hvi (And.intro hvc hle))))
      clear hbl hvv hcs ho hbd hvi hvc hle
      go_upto_region 5 with fail
      have hbA := HL.out.2.alloc HL.out.2.size (.cells #[.int .i64 o.f, .int .i64 o.i, .int .i64 o.fr, .int .i64 o.c, .slice va o.vs.length vc] 50)
      have hcn := cells_new (W := wr) (cs := [.int .i64 o.f, .int .i64 o.i, .int .i64 o.fr, .int .i64 o.c, .slice va o.vs.length vc]) (t := 50) rfl
      have hsA := HL.out.1.kept (grownBy_alloc wr (.cells #[.int .i64 o.f, .int .i64 o.i, .int .i64 o.fr, .int .i64 o.c, .slice va o.vs.length vc] 50)) (by simp)
      have hmlt := HL.out.1.lt
      refine gen_code (fun Z => SetT Try.prog 32 4 Z mb (upto inL x.o i 0).length ((upto inL x.o i 0).map nv) ∧ Below W.heap.size W Z ∧ Z.cell? ⟨wr.heap.size, 0, none⟩ = some (.int .i64 o.f) ∧ Z.cell? ⟨wr.heap.size, 1, none⟩ = some (.int .i64 o.i) ∧ Z.cell? ⟨wr.heap.size, 4, none⟩ = some (.slice va o.vs.length vc)) ⟨hsA, hbA, hcn 0 _ rfl, hcn 1 _ rfl, hcn 4 _ rfl⟩ ?_
      intro W2 hz
      obtain ⟨ob, hob⟩ : ∃ ob, ob = wr.heap.size := ⟨_, rfl⟩
      rw [← hob] at hz ⊢
      have h4 := hz.2.2.2.2
      have H2 := Lib.hid (And.intro (And.intro hz.1 hz.2.1) (And.intro (And.intro hz.2.2.1 hz.2.2.2.1) (show mb < ob by omega)))
      clear hbA hcn hsA hz hob hmlt o0 o1 o2 o3 o4 j1
      go_wp2_with fail
      clear h4
      go_loopw [19] (fun y w2 => ∃ k : Nat, k ≤ o.vs.length ∧ y = .int .i64 (k : Int) ∧ Hid (SetT Try.prog 32 4 w2 mb (upto inL x.o i k).length ((upto inL x.o i k).map nv) ∧ Below W.heap.size W w2 ∧ (w2.cell? ⟨ob, 0, none⟩ = some (.int .i64 o.f) ∧ w2.cell? ⟨ob, 1, none⟩ = some (.int .i64 o.i)))) (fun y _ => o.vs.length - (intOf y).toNat)
      case atStart => exact ⟨0, by omega, rfl, H2.out.1.1, H2.out.1.2, H2.out.2.1⟩
      case round =>
        obtain ⟨k, hk, rfl, hh⟩ := hrel
        have HK := Lib.hid hh.out
        clear hh
        by_cases hkl : k < o.vs.length
        · have hkli : (k : Int) < (o.vs.length : Int) := by omega
          obtain ⟨hb1, hb2, hcs⟩ := HO.out.2.2.2.1 k hkl
          obtain ⟨o0, o1, o2⟩ := hcs wr HK.out.2.1
          have j1 := HO.out.2.2.1 (k : Int) (by omega) (by omega)
          rw [Int.toNat_natCast] at j1
          obtain ⟨vl, hvl⟩ : ∃ vl, vl = nth o.vs k := ⟨_, rfl⟩
          rw [← hvl] at o0 o1 o2 hb2
          have HV := Lib.hid (And.intro hvl hb2)
          clear hb1 hb2 hcs hvl
          go_upto_region 8 with fail
          have hbA := HK.out.2.1.alloc HK.out.2.1.size (.cells #[.int .i64 vl.k, .int .i64 vl.n, .int .i64 vl.s] 56)
          have hcn := cells_new (W := wr) (cs := [.int .i64 vl.k, .int .i64 vl.n, .int .i64 vl.s]) (t := 56) rfl
          have hgA := grownBy_alloc wr (.cells #[.int .i64 vl.k, .int .i64 vl.n, .int .i64 vl.s] 56)
          have hsA := HK.out.1.kept hgA (by simp)
          have hmlt := HK.out.1.lt
          refine gen_code (fun Z => SetT Try.prog 32 4 Z mb (upto inL x.o i k).length ((upto inL x.o i k).map nv) ∧ Below W.heap.size W Z ∧ (Z.cell? ⟨ob, 0, none⟩ = some (.int .i64 o.f) ∧ Z.cell? ⟨ob, 1, none⟩ = some (.int .i64 o.i)) ∧ Z.cell? ⟨wr.heap.size, 0, none⟩ = some (.int .i64 vl.k) ∧ Z.cell? ⟨wr.heap.size, 1, none⟩ = some (.int .i64 vl.n) ∧ Z.cell? ⟨wr.heap.size, 2, none⟩ = some (.int .i64 vl.s)) ⟨hsA, hbA, ⟨hgA.cell HK.out.2.2.1 (by simp), hgA.cell HK.out.2.2.2 (by simp)⟩, hcn 0 _ rfl, hcn 1 _ rfl, hcn 2 _ rfl⟩ ?_
          intro W3 hz
          obtain ⟨vb, hvb⟩ : ∃ vb, vb = wr.heap.size := ⟨_, rfl⟩
          rw [← hvb] at hz ⊢
          obtain ⟨v0, v1, v2⟩ := hz.2.2.2
          obtain ⟨f0, f1⟩ := hz.2.2.1
          have HZ := Lib.hid (And.intro hz.1 (And.intro hz.2.1 hz.2.2.1))
          clear hbA hcn hsA hgA hz hvb hmlt o0 o1 o2 j1
          by_cases hkd : vl.k = 1
          · have w1 : (vl.k == 1) = true := by simpa using hkd
            have hmore := inL_yes (o := o) (k := k) (by rw [← HV.out.1]; exact hkd)
            have hup := upto_more inL x.o i k [(o.f, o.i, (k : Int), vl.n)] (by rw [← HO.out.1, hmore, ← HV.out.1])
            have hlen9 := HO.out.2.2.2.2 k (by omega)
            have hn9 : (upto inL x.o i k).length < maxLen := by unfold maxLen; omega
            obtain ⟨kl, hkl9⟩ := nkWf (o.f, o.i, (k : Int), vl.n) ⟨HO.out.2.1.1, HO.out.2.1.2.1, by unfold inI; dsimp only; omega, HV.out.2.2.1⟩
            have HU := Lib.hid (And.intro hup hkl9)
            clear hkd hmore hup hkl9
            go_wp2_with (at_mapUpdate; refine wp_setPut HZ.out.1 rfl _ _ _ rfl nkKeyed Try.underlying62 Try.underlying4 rfl rfl hn9 (nv (o.f, o.i, (k : Int), vl.n)) kl rfl HU.out.2 ?_; intro W4 set4 g4; have H4 := Lib.hid (And.intro set4 g4); clear set4 g4)
            have hmm : ∀ q, some mb = some q → W.heap.size ≤ q := fun q e9 => by have := HM.out; have := Option.some.inj e9; omega
            have hob : some ob ≠ some mb := fun e9 => by have := H2.out.2.2; have := Option.some.inj e9; omega
            have H5 : Hid (SetT Try.prog 32 4 W4 mb (upto inL x.o i (k + 1)).length ((upto inL x.o i (k + 1)).map nv) ∧ Below W.heap.size W W4 ∧ (W4.cell? ⟨ob, 0, none⟩ = some (.int .i64 o.f) ∧ W4.cell? ⟨ob, 1, none⟩ = some (.int .i64 o.i))) := Lib.hid (by
              rw [HU.out.1, List.map_append, List.length_append]
              exact ⟨H4.out.1, HZ.out.2.1.grown H4.out.2 HZ.out.2.1.size hmm, H4.out.2.cell HZ.out.2.2.1 hob, H4.out.2.cell HZ.out.2.2.2 hob⟩)
            clear hmm hob
            go_roundw
            case rel => exact ⟨k + 1, by omega, by go_num, H5.out⟩
            case measure => simp [intOf]; omega
          · have w1 : (vl.k == 1) = false := by simpa using hkd
            have hmore := inL_no (o := o) (k := k) (by rw [← HV.out.1]; exact hkd)
            have hup := upto_more inL x.o i k [] (by rw [← HO.out.1, hmore, List.append_nil])
            rw [List.append_nil] at hup
            have HU := Lib.hid hup
            clear hkd hmore hup
            go_wp2_with fail
            go_roundw
            case rel => exact ⟨k + 1, by omega, by go_num, by rw [HU.out]; exact HZ.out⟩
            case measure => simp [intOf]; omega
        · obtain rfl : k = o.vs.length := by omega
          have HU := Lib.hid (upto_next inL x.o hil (inL_zero _))
          clear hkl
          go_wp2_with fail
          go_roundw
          case rel => exact ⟨i + 1, by omega, by go_num, by rw [HU.out, ← HO.out.1]; exact ⟨HK.out.1, HK.out.2.1⟩⟩
          case measure => simp [intOf]; omega
    · obtain rfl : i = x.o.length := by omega
      have hall := upto_all inL x.o inL_zero
      have hlen9 : (upto inL x.o x.o.length 0).length ≤ 1048576 := by
        rw [hall]
        exact Nat.le_trans (flat_len9 inL_len x.o) HX.out.2
      have hs := HL.out.1
      have hin : ∀ y ∈ upto inL x.o x.o.length 0, inI y.1 ∧ inI y.2.1 ∧ inI y.2.2.1 ∧ inI y.2.2.2 := fun y hy => by
        rw [hall] at hy
        obtain ⟨o, ho, hy⟩ := List.mem_flatMap.1 hy
        obtain ⟨t, ht, rfl⟩ := mem_nth ho
        obtain ⟨-, vv, hbd, hvv, -⟩ := HC.out t ht
        obtain ⟨va, vc, -, hvl, -, hvc⟩ := InS.vl hvv
        exact inL_in hbd.1 hbd.2.1 (fun j hj => (hvc j hj).2.1.2.1) (by omega) (Nat.le_refl _) hy
      have ha := ascN_any mb _ (upto inL x.o x.o.length 0) wr hs (by omega) (by omega) hin
      rw [hall] at ha
      have HA := Lib.hid ha
      clear hall hlen9 hs hin ha hil
      go_wp2_with fail
      refine HA.out.mono ?_
      rintro e W5 ⟨a, c, L, rfl, ho, hp, hm, hb⟩
      have H5 := Lib.hid (And.intro (ho.mono9 HL.out.2.size) (And.intro hp (And.intro hm (HL.out.2.trans (hb.mono HL.out.2.size)))))
      clear ho hp hm hb HA
      go_wp2_with fail
      go_ret
      exact ⟨a, c, L, rfl, H5.out.1, H5.out.2.1, H5.out.2.2.1, H5.out.2.2.2⟩
end Go.Proofs.Ytnklnklkblgnfaa
