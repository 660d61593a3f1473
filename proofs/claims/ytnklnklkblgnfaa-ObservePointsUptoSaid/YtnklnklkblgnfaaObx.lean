/- Contract of the reference's Points. -/
import Derived.Test.YtnklnklkblgnfaaObq
import Derived.Test.YtnklnklkblgnfaaObk
namespace Go.Proofs.Ytnklnklkblgnfaa
open Go.RowKit Go.Dfl Go.Gra Go.Obs Go.Sort Go.Maps
/-- The list so far. -/
def PutI (W W1 : World) (m : List (Int × Int × Int)) (a : Option Addr) (c : Nat) (L : List (Int × Int × Int)) (wr : World) : Prop := OwnE elP wr W.heap.size 53 (.slice a L.length c) L ∧ L.Pairwise lt3 ∧ (∀ y, y ∈ L ↔ y ∈ m) ∧ Below W1.heap.size W1 wr
theorem asc_len {α : Type} [DecidableEq α] {lt : α → α → Prop} (h : STO lt) {L m : List α} (hp : L.Pairwise lt) (hm : ∀ y, y ∈ L ↔ y ∈ m) : L.length ≤ m.length :=
  nodup_le' (hp.imp fun {a b} hab e => by subst e; exact h.irrefl _ hab) fun y hy => (hm y).1 hy
set_option maxHeartbeats 3200000 in
set_option maxRecDepth 100000 in
theorem rPoints_any (x : Ex) (ov : Value) (W : World) (h : ExIn W ov x) (hn : valN x ≤ 1048576) : Calls Try.prog 8 #[exV x ov] W (ascPR (allP x) W) := by
  have H0 := Lib.hid (ExB.new h)
  obtain ⟨oa, oc, rfl, hlen, hidx, hcell⟩ := InS.ob H0.out.ex.2
  have HI := Lib.hid hidx
  have HC := Lib.hid hcell
  have HN := Lib.hid hn
  clear h hn hidx hcell
  go_enter Try.func8, Try.ntmps8
  go_upto_region 1 with fail
  refine gen_code (fun Z => Z = W.alloc (.cells #[.int .i64 x.e, .slice oa x.o.length oc] 24)) rfl ?_
  intro W1 hW1
  rw [← hW1] at H0 HC
  clear hW1
  go_wp2_with fail
  go_loopw [3, 4] (fun v y wr => ∃ (i : Nat) (a : Option Addr) (c : Nat) (L : List (Int × Int × Int)), i ≤ x.o.length ∧ y = .int .i64 (i : Int) ∧ v = .slice a L.length c ∧ Hid (PutI W W1 (upto ptL x.o i 0) a c L wr)) (fun _ y _ => x.o.length - (intOf y).toNat)
  case atStart => exact ⟨0, none, 0, [], by omega, rfl, rfl, Go.Dfl.OwnE.nil _ _ _ _, List.Pairwise.nil, fun y => Iff.rfl, Below.refl _ _⟩
  case round =>
    obtain ⟨i, a, c, L, hi, rfl, rfl, hh⟩ := hrel
    have HL := Lib.hid hh.out
    clear hh
    obtain ⟨c1, c0⟩ := (H0.out.below HL.out.2.2.2).box
    by_cases hil : i < x.o.length
    · have hili : (i : Int) < (x.o.length : Int) := by omega
      obtain ⟨hbl, vv, hbd, hvv, hcs⟩ := HC.out i hil
      obtain ⟨o0, o1, o2, o3, o4⟩ := hcs wr HL.out.2.2.2
      have j1 := HI.out (i : Int) (by omega) (by omega)
      rw [Int.toNat_natCast] at j1
      obtain ⟨va, vc, rfl, hvl, hvi, hvc⟩ := InS.vl hvv
      obtain ⟨o, ho⟩ : ∃ o, o = nth x.o i := ⟨_, rfl⟩
      have hle : ∀ k, k ≤ o.vs.length → (upto ptL x.o i k).length ≤ 1048576 := fun k hk => Nat.le_trans (upto_len ptL_len x.o hil (by rw [← ho]; exact hk)) HN.out
      rw [← ho] at o0 o1 o2 o3 o4 hbd hvl hvi hvc
      have HO := Lib.hid (And.intro ho (And.intro hbd (And.intro hvi (And.intro hvc hle))))
      clear hbl hvv hcs ho hbd hvi hvc hle
      go_upto_region 6 with fail
      have hbA := HL.out.2.2.2.alloc HL.out.2.2.2.size (.cells #[.int .i64 o.f, .int .i64 o.i, .int .i64 o.fr, .int .i64 o.c, .slice va o.vs.length vc] 50)
      have hcn := cells_new (W := wr) (cs := [.int .i64 o.f, .int .i64 o.i, .int .i64 o.fr, .int .i64 o.c, .slice va o.vs.length vc]) (t := 50) rfl
      have hoA := OwnE.grown HL.out.1 (grownBy_alloc wr (.cells #[.int .i64 o.f, .int .i64 o.i, .int .i64 o.fr, .int .i64 o.c, .slice va o.vs.length vc] 50)) (by cases (Value.slice a L.length c).ownBlock <;> simp)
      refine gen_code (fun Z => PutI W W1 (upto ptL x.o i 0) a c L Z ∧ Z.cell? ⟨wr.heap.size, 0, none⟩ = some (.int .i64 o.f) ∧ Z.cell? ⟨wr.heap.size, 4, none⟩ = some (.slice va o.vs.length vc)) ⟨⟨hoA, HL.out.2.1, HL.out.2.2.1, hbA⟩, hcn 0 _ rfl, hcn 4 _ rfl⟩ ?_
      intro W2 hz
      obtain ⟨ob, hob⟩ : ∃ ob, ob = wr.heap.size := ⟨_, rfl⟩
      rw [← hob] at hz ⊢
      have H2 := Lib.hid hz
      clear hbA hcn hoA hz hob o0 o1 o2 o3 o4 j1 c0 c1
      go_wp2_with fail
      go_loopw [3, 6] (fun v y w2 => ∃ (k : Nat) (a : Option Addr) (c : Nat) (L : List (Int × Int × Int)), k ≤ o.vs.length ∧ y = .int .i64 (k : Int) ∧ v = .slice a L.length c ∧ Hid (PutI W W1 (upto ptL x.o i k) a c L w2 ∧ w2.cell? ⟨ob, 0, none⟩ = some (.int .i64 o.f) ∧ w2.cell? ⟨ob, 4, none⟩ = some (.slice va o.vs.length vc))) (fun _ y _ => o.vs.length - (intOf y).toNat)
      case atStart => exact ⟨0, a, c, L, by omega, rfl, rfl, H2.out⟩
      case round =>
        obtain ⟨k, a, c, L, hk, rfl, rfl, hh⟩ := hrel
        have HK := Lib.hid hh.out
        clear hh
        obtain ⟨f0, f4⟩ := HK.out.2
        by_cases hkl : k < o.vs.length
        · have hkli : (k : Int) < (o.vs.length : Int) := by omega
          obtain ⟨hb1, hb2, hcs⟩ := HO.out.2.2.2.1 k hkl
          obtain ⟨vl, hvl⟩ : ∃ vl, vl = nth o.vs k := ⟨_, rfl⟩
          rw [← hvl] at hcs
          have HSS := Lib.hid (show ∀ Z, Below wr.heap.size wr Z → (Z.cell? ⟨ob, 0, none⟩ = some (.int .i64 o.f) ∧ Z.cell? ⟨ob, 4, none⟩ = some (.slice va o.vs.length vc)) ∧ Z.cell? ⟨blk va, ofs va + k * 3, none⟩ = some (.int .i64 vl.k) ∧ Z.cell? ⟨blk va, ofs va + k * 3 + 2, none⟩ = some (.int .i64 vl.s) from fun Z hZ =>
            ⟨⟨(hZ.cell (World.block_lt_of_cell? _ _ f0)).trans f0, (hZ.cell (World.block_lt_of_cell? _ _ f4)).trans f4⟩, (hcs Z (bel_trans HK.out.1.2.2.2 hZ)).1, (hcs Z (bel_trans HK.out.1.2.2.2 hZ)).2.2⟩)
          obtain ⟨-, v0, v2⟩ := HSS.out wr (Below.refl _ _)
          have j1 := HO.out.2.2.1 (k : Int) (by omega) (by omega)
          rw [Int.toNat_natCast] at j1
          have HV := Lib.hid hvl
          clear hb1 hb2 hcs hvl
          by_cases hkd : vl.k = 3
          · have w1 : (vl.k == 3) = true := by simpa using hkd
            have hmore := ptL_yes (o := o) (k := k) (by rw [← HV.out]; exact hkd)
            have hup := upto_more ptL x.o i k [(o.f, (k : Int), vl.s)] (by rw [← HO.out.1, hmore, ← HV.out])
            have hlen9 := Nat.le_trans (asc_len sto3 HK.out.1.2.1 HK.out.1.2.2.1) (HO.out.2.2.2.2 k (by omega))
            have HU := Lib.hid (And.intro hup hlen9)
            have HBW := Lib.hid (bel_trans H0.out.bel HK.out.1.2.2.2)
            clear hkd hmore hup hlen9
            go_upto_region 10 with fail
            have hdr : Below wr.heap.size wr wr.drew := (Below.refl _ _).drew
            refine wp_region_plan (.take 0 (.take 1 (.take 2 (.take 3 (.take 4 (.take 5 (.take 6 (.take 7 (.take 8 (.take 9 (.take 10 (.alt 11 (.take 12 .done) .stop))))))))))))
              (fun w' => (w'.cell? ⟨ob, 0, none⟩ = some (.int .i64 o.f) ∧ w'.cell? ⟨ob, 4, none⟩ = some (.slice va o.vs.length vc)) ∧ w'.cell? ⟨blk va, ofs va + k * 3, none⟩ = some (.int .i64 vl.k) ∧ w'.cell? ⟨blk va, ofs va + k * 3 + 2, none⟩ = some (.int .i64 vl.s)) (by kernel_rfl) (by kernel_rfl) (by kernel_rfl) (by kernel_rfl) (HSS.out _ hdr) ?_
            have HD := Lib.hid hdr
            clear hdr
            generalize wr.drew = V at *
            repeat (
              refine plan_take (v := ?_) rfl (Or.inl ⟨by rfl, ?_⟩) ?_
              rotate_left
              · (intro W hW; obtain ⟨⟨q1, q2⟩, q3, q4⟩ := hW; go_simp; try with_reducible rfl)
              simp only [Act.put, List.setIfInBounds_toArray, List.getElem_toArray, List.getElem_cons_zero, List.getElem_cons_succ, List.set_cons_succ, List.set_cons_zero])
            refine plan_alt rfl ?_ plan_stop
            have how := OwnE.grown HK.out.1.1 (grownBy_below HD.out) (by cases (Value.slice a L.length c).ownBlock <;> simp)
            have HP := Lib.hid (putPoint_any W.heap.size a c L (o.f, (k : Int), vl.s) V how HK.out.1.2.1 (by have := HU.out.2; omega) (bel_trans HBW.out HD.out).size)
            clear how
            go_wp2_with fail
            refine HP.out.mono ?_
            rintro e V5 ⟨a5, c5, L5, rfl, ho5, hp5, hm5, hb5⟩
            have H5 := Lib.hid (And.intro ho5 (And.intro hp5 (And.intro hm5 (bel_trans HD.out hb5))))
            clear ho5 hp5 hm5 hb5 HP
            go_wp2_with fail
            refine tail_mk (HSS.out _ H5.out.2.2.2) ?_
            repeat (
              refine plan_take (v := ?_) rfl (Or.inl ⟨by rfl, ?_⟩) ?_
              rotate_left
              · (intro W hW; obtain ⟨⟨q1, q2⟩, q3, q4⟩ := hW; go_simp; try with_reducible rfl)
              simp only [Act.put, List.setIfInBounds_toArray, List.getElem_toArray, List.getElem_cons_zero, List.getElem_cons_succ, List.set_cons_succ, List.set_cons_zero])
            refine plan_done ?_
            go_wp2_with fail
            go_roundw
            case rel => exact ⟨k + 1, a5, c5, L5, by omega, by go_num, rfl, ⟨H5.out.1, H5.out.2.1, fun y => by rw [H5.out.2.2.1 y, HK.out.1.2.2.1 y, HU.out.1, List.mem_append, List.mem_singleton], bel_trans HK.out.1.2.2.2 H5.out.2.2.2⟩, (HSS.out _ H5.out.2.2.2).1⟩
            case measure => simp [intOf]; omega
          · have w1 : (vl.k == 3) = false := by simpa using hkd
            have hmore := ptL_no (o := o) (k := k) (by rw [← HV.out]; exact hkd)
            have hup := upto_more ptL x.o i k [] (by rw [← HO.out.1, hmore, List.append_nil])
            rw [List.append_nil] at hup
            have HU := Lib.hid hup
            clear hkd hmore hup
            go_wp2_with fail
            go_roundw
            case rel => exact ⟨k + 1, a, c, L, by omega, by go_num, rfl, by rw [HU.out]; exact HK.out⟩
            case measure => simp [intOf]; omega
        · obtain rfl : k = o.vs.length := by omega
          have HU := Lib.hid (upto_next ptL x.o hil (ptL_zero _))
          clear hkl
          go_wp2_with fail
          go_roundw
          case rel => exact ⟨i + 1, a, c, L, by omega, by go_num, rfl, by rw [HU.out, ← HO.out.1]; exact HK.out.1⟩
          case measure => simp [intOf]; omega
    · obtain rfl : i = x.o.length := by omega
      have HE := Lib.hid (And.intro (upto_all ptL x.o ptL_zero) (bel_trans H0.out.bel HL.out.2.2.2))
      clear hil
      go_wp2_with fail
      go_ret
      exact ⟨a, c, L, rfl, HL.out.1, HL.out.2.1, fun y => by rw [HL.out.2.2.1 y, HE.out.1]; rfl, HE.out.2⟩
end Go.Proofs.Ytnklnklkblgnfaa
