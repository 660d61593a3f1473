/- Contract of the reference's Ints. -/
import Derived.Test.YtnklnklkblgnfaaObz
namespace Go.Proofs.Ytnklnklkblgnfaa
open Go.RowKit Go.Dfl Go.Gra Go.Obs Go.Sort Go.Maps
/-- The list so far. -/
def PutJ (W1 : World) (m : List (Int × Int × Int × Int)) (a : Option Addr) (c : Nat) (L : List (Int × Int × Int × Int)) (wr : World) : Prop := OwnE elN wr W1.heap.size 32 (.slice a L.length c) L ∧ L.Pairwise lt4 ∧ (∀ y, y ∈ L ↔ y ∈ m) ∧ Below W1.heap.size W1 wr
set_option maxHeartbeats 3200000 in
set_option maxRecDepth 100000 in
theorem rInts_any (x : Ex) (ov : Value) (W : World) (h : ExIn W ov x) (hn : valN x ≤ 1048576) : Calls Try.prog 11 #[exV x ov] W (ascNR (allN x) W) := by
  have H0 := Lib.hid (ExB.new h)
  obtain ⟨oa, oc, rfl, hlen, hidx, hcell⟩ := InS.ob H0.out.ex.2
  have HI := Lib.hid hidx
  have HC := Lib.hid hcell
  have HN := Lib.hid hn
  clear h hn hidx hcell
  go_enter Try.func11, Try.ntmps11
  go_upto_region 1 with fail
  refine gen_code (fun Z => Z = W.alloc (.cells #[.int .i64 x.e, .slice oa x.o.length oc] 24)) rfl ?_
  intro W1 hW1
  rw [← hW1] at H0 HC
  clear hW1
  go_wp2_with fail
  go_loopw [3, 4] (fun v y wr => ∃ (i : Nat) (a : Option Addr) (c : Nat) (L : List (Int × Int × Int × Int)), i ≤ x.o.length ∧ y = .int .i64 (i : Int) ∧ v = .slice a L.length c ∧ Hid (PutJ W1 (upto inL x.o i 0) a c L wr)) (fun _ y _ => x.o.length - (intOf y).toNat)
  case atStart => exact ⟨0, none, 0, [], by omega, rfl, rfl, Go.Dfl.OwnE.nil _ _ _ _, List.Pairwise.nil, fun y => Iff.rfl, Below.refl _ _⟩
  case round =>
    obtain ⟨i, a, c, L, hi, rfl, rfl, hh⟩ := hrel
    have HL := Lib.hid hh.out
    clear hh
    obtain ⟨c1, c0⟩ := (H0.out.below HL.out.2.2.2).box
    by_cases hil : i < x.o.length
    · have hili : (i : Int) < (x.o.length : Int) := by omega
      obtain ⟨hbl, vv, hbd, hvv, hcs⟩ := HC.out i hil
      obtain ⟨o0, o1, o2, o3, o4⟩ := hcs wr HL.out.2.2.2
      have j1 := HI.out (i : Int) (by omega) (by omega)
      rw [Int.toNat_natCast] at j1
      obtain ⟨va, vc, rfl, hvl, hvi, hvc⟩ := InS.vl hvv
      obtain ⟨o, ho⟩ : ∃ o, o = nth x.o i := ⟨_, rfl⟩
      have hle : ∀ k, k ≤ o.vs.length → (upto inL x.o i k).length ≤ 1048576 := fun k hk => Nat.le_trans (upto_len inL_len x.o hil (by rw [← ho]; exact hk)) HN.out
      rw [← ho] at o0 o1 o2 o3 o4 hbd hvl hvi hvc
      have HO := Lib.hid (And.intro ho (And.intro hbd (And.intro hvi (And.intro hvc hle))))
      clear hbl hvv hcs ho hbd hvi hvc hle
      go_upto_region 6 with fail
      have hbA := HL.out.2.2.2.alloc HL.out.2.2.2.size (.cells #[.int .i64 o.f, .int .i64 o.i, .int .i64 o.fr, .int .i64 o.c, .slice va o.vs.length vc] 50)
      have hcn := cells_new (W := wr) (cs := [.int .i64 o.f, .int .i64 o.i, .int .i64 o.fr, .int .i64 o.c, .slice va o.vs.length vc]) (t := 50) rfl
      have hoA := OwnE.grown HL.out.1 (grownBy_alloc wr (.cells #[.int .i64 o.f, .int .i64 o.i, .int .i64 o.fr, .int .i64 o.c, .slice va o.vs.length vc] 50)) (by cases (Value.slice a L.length c).ownBlock <;> simp)
      refine gen_code (fun Z => PutJ W1 (upto inL x.o i 0) a c L Z ∧ (Z.cell? ⟨wr.heap.size, 0, none⟩ = some (.int .i64 o.f) ∧ Z.cell? ⟨wr.heap.size, 1, none⟩ = some (.int .i64 o.i) ∧ Z.cell? ⟨wr.heap.size, 4, none⟩ = some (.slice va o.vs.length vc)) ∧ ∀ q, (Value.slice a L.length c).ownBlock = some q → q ≠ wr.heap.size) ⟨⟨hoA, HL.out.2.1, HL.out.2.2.1, hbA⟩, ⟨hcn 0 _ rfl, hcn 1 _ rfl, hcn 4 _ rfl⟩, fun q hq => Nat.ne_of_lt (OwnE.lt HL.out.1 q hq).2⟩ ?_
      intro W2 hz
      obtain ⟨ob, hob⟩ : ∃ ob, ob = wr.heap.size := ⟨_, rfl⟩
      rw [← hob] at hz ⊢
      have H2 := Lib.hid hz
      clear hbA hcn hoA hz hob o0 o1 o2 o3 o4 j1 c0 c1
      go_wp2_with fail
      go_loopw [3, 6] (fun v y w2 => ∃ (k : Nat) (a : Option Addr) (c : Nat) (L : List (Int × Int × Int × Int)), k ≤ o.vs.length ∧ y = .int .i64 (k : Int) ∧ v = .slice a L.length c ∧ Hid (PutJ W1 (upto inL x.o i k) a c L w2 ∧ (w2.cell? ⟨ob, 0, none⟩ = some (.int .i64 o.f) ∧ w2.cell? ⟨ob, 1, none⟩ = some (.int .i64 o.i) ∧ w2.cell? ⟨ob, 4, none⟩ = some (.slice va o.vs.length vc)) ∧ ∀ q, (Value.slice a L.length c).ownBlock = some q → q ≠ ob)) (fun _ y _ => o.vs.length - (intOf y).toNat)
      case atStart => exact ⟨0, a, c, L, by omega, rfl, rfl, H2.out⟩
      case round =>
        obtain ⟨k, a, c, L, hk, rfl, rfl, hh⟩ := hrel
        have HK := Lib.hid hh.out
        clear hh
        obtain ⟨f0, f1, f4⟩ := HK.out.2.1
        by_cases hkl : k < o.vs.length
        · have hkli : (k : Int) < (o.vs.length : Int) := by omega
          obtain ⟨hb1, hb2, hcs⟩ := HO.out.2.2.2.1 k hkl
          obtain ⟨vl, hvl⟩ : ∃ vl, vl = nth o.vs k := ⟨_, rfl⟩
          rw [← hvl] at hcs
          have HCS := Lib.hid (show ∀ Z, Below W1.heap.size W1 Z → Z.cell? ⟨blk va, ofs va + k * 3, none⟩ = some (.int .i64 vl.k) ∧ Z.cell? ⟨blk va, ofs va + k * 3 + 1, none⟩ = some (.int .i64 vl.n) from fun Z hZ => ⟨(hcs Z hZ).1, (hcs Z hZ).2.1⟩)
          obtain ⟨v0, v1⟩ := HCS.out wr HK.out.1.2.2.2
          have j1 := HO.out.2.2.1 (k : Int) (by omega) (by omega)
          rw [Int.toNat_natCast] at j1
          have HV := Lib.hid hvl
          clear hb1 hb2 hcs hvl
          by_cases hkd : vl.k = 1
          · have w1 : (vl.k == 1) = true := by simpa using hkd
            have hmore := inL_yes (o := o) (k := k) (by rw [← HV.out]; exact hkd)
            have hup := upto_more inL x.o i k [(o.f, o.i, (k : Int), vl.n)] (by rw [← HO.out.1, hmore, ← HV.out])
            have hlen9 := Nat.le_trans (asc_len sto4 HK.out.1.2.1 HK.out.1.2.2.1) (HO.out.2.2.2.2 k (by omega))
            have HU := Lib.hid (And.intro hup hlen9)
            clear hkd hmore hup hlen9
            go_upto_region 10 with fail
            have hdr : Below wr.heap.size wr wr.drew := (Below.refl _ _).drew
            have hbV := bel_trans HK.out.1.2.2.2 hdr
            have hsV : (wr.drew.cell? ⟨ob, 0, none⟩ = some (.int .i64 o.f) ∧ wr.drew.cell? ⟨ob, 1, none⟩ = some (.int .i64 o.i) ∧ wr.drew.cell? ⟨ob, 4, none⟩ = some (.slice va o.vs.length vc)) ∧ wr.drew.cell? ⟨blk va, ofs va + k * 3, none⟩ = some (.int .i64 vl.k) ∧ wr.drew.cell? ⟨blk va, ofs va + k * 3 + 1, none⟩ = some (.int .i64 vl.n) := ⟨HK.out.2.1, HCS.out _ hbV⟩
            refine wp_region_plan (.take 0 (.take 1 (.take 2 (.take 3 (.take 4 (.take 5 (.take 6 (.take 7 (.take 8 (.take 9 (.take 10 (.take 11 (.take 12 (.alt 13 (.take 14 .done) .stop))))))))))))))
              (fun w' => (w'.cell? ⟨ob, 0, none⟩ = some (.int .i64 o.f) ∧ w'.cell? ⟨ob, 1, none⟩ = some (.int .i64 o.i) ∧ w'.cell? ⟨ob, 4, none⟩ = some (.slice va o.vs.length vc)) ∧ w'.cell? ⟨blk va, ofs va + k * 3, none⟩ = some (.int .i64 vl.k) ∧ w'.cell? ⟨blk va, ofs va + k * 3 + 1, none⟩ = some (.int .i64 vl.n)) (by kernel_rfl) (by kernel_rfl) (by kernel_rfl) (by kernel_rfl) hsV ?_
            have how := OwnE.grown HK.out.1.1 (grownBy_below hdr) (by cases (Value.slice a L.length c).ownBlock <;> simp)
            have HD := Lib.hid (And.intro hbV (And.intro hsV how))
            clear hdr hbV hsV how
            generalize wr.drew = V at *
            repeat (
              refine plan_take (v := ?_) rfl (Or.inl ⟨by rfl, ?_⟩) ?_
              rotate_left
              · (intro W hW; obtain ⟨⟨q1, q2, q5⟩, q3, q4⟩ := hW; go_simp; try with_reducible rfl)
              simp only [Act.put, List.setIfInBounds_toArray, List.getElem_toArray, List.getElem_cons_zero, List.getElem_cons_succ, List.set_cons_succ, List.set_cons_zero])
            refine plan_alt rfl ?_ plan_stop
            have HP := Lib.hid (putInt_any W1.heap.size a c L (o.f, o.i, (k : Int), vl.n) V HD.out.2.2 HK.out.1.2.1 (by have := HU.out.2; omega) HD.out.1.size)
            go_wp2_with fail
            refine HP.out.mono ?_
            rintro e V5 ⟨a5, c5, L5, rfl, ho5, hp5, hm5, hg5, hr5⟩
            have hne : some ob ≠ (Value.slice a L.length c).ownBlock := fun e9 => HK.out.2.2 ob e9.symm rfl
            have hb5 := HD.out.1.grown hg5 HD.out.1.size (fun q e9 => (OwnE.lt HD.out.2.2 q e9).1)
            have hob : ∀ q, (Value.slice a5 L5.length c5).ownBlock = some q → q ≠ ob := fun q hq => by
              rcases hr5 with e9 | e9
              · rw [e9] at hq; exact HK.out.2.2 q hq
              · have h9 := e9 q hq
                have h8 := World.block_lt_of_cell? _ _ HD.out.2.1.1.1
                intro h7; subst h7; exact absurd h8 (Nat.not_lt.2 h9)
            have hs5 : (V5.cell? ⟨ob, 0, none⟩ = some (.int .i64 o.f) ∧ V5.cell? ⟨ob, 1, none⟩ = some (.int .i64 o.i) ∧ V5.cell? ⟨ob, 4, none⟩ = some (.slice va o.vs.length vc)) ∧ V5.cell? ⟨blk va, ofs va + k * 3, none⟩ = some (.int .i64 vl.k) ∧ V5.cell? ⟨blk va, ofs va + k * 3 + 1, none⟩ = some (.int .i64 vl.n) := ⟨⟨hg5.cell HD.out.2.1.1.1 hne, hg5.cell HD.out.2.1.1.2.1 hne, hg5.cell HD.out.2.1.1.2.2 hne⟩, HCS.out _ hb5⟩
            have H5 := Lib.hid (And.intro (And.intro ho5 (And.intro hp5 (And.intro hm5 hb5))) (And.intro hs5 hob))
            clear ho5 hp5 hm5 hg5 hr5 HP hne hb5 hob hs5
            go_wp2_with fail
            refine tail_mk H5.out.2.1 ?_
            repeat (
              refine plan_take (v := ?_) rfl (Or.inl ⟨by rfl, ?_⟩) ?_
              rotate_left
              · (intro W hW; obtain ⟨⟨q1, q2, q5⟩, q3, q4⟩ := hW; go_simp; try with_reducible rfl)
              simp only [Act.put, List.setIfInBounds_toArray, List.getElem_toArray, List.getElem_cons_zero, List.getElem_cons_succ, List.set_cons_succ, List.set_cons_zero])
            refine plan_done ?_
            go_wp2_with fail
            go_roundw
            case rel => exact ⟨k + 1, a5, c5, L5, by omega, by go_num, rfl, ⟨H5.out.1.1, H5.out.1.2.1, fun y => by rw [H5.out.1.2.2.1 y, HK.out.1.2.2.1 y, HU.out.1, List.mem_append, List.mem_singleton], H5.out.1.2.2.2⟩, H5.out.2.1.1, H5.out.2.2⟩
            case measure => simp [intOf]; omega
          · have w1 : (vl.k == 1) = false := by simpa using hkd
            have hmore := inL_no (o := o) (k := k) (by rw [← HV.out]; exact hkd)
            have hup := upto_more inL x.o i k [] (by rw [← HO.out.1, hmore, List.append_nil])
            rw [List.append_nil] at hup
            have HU := Lib.hid hup
            clear hkd hmore hup
            go_wp2_with fail
            go_roundw
            case rel => exact ⟨k + 1, a, c, L, by omega, by go_num, rfl, by rw [HU.out]; exact HK.out⟩
            case measure => simp [intOf]; omega
        · obtain rfl : k = o.vs.length := by omega
          have HU := Lib.hid (upto_next inL x.o hil (inL_zero _))
          clear hkl
          go_wp2_with fail
          go_roundw
          case rel => exact ⟨i + 1, a, c, L, by omega, by go_num, rfl, by rw [HU.out, ← HO.out.1]; exact HK.out.1⟩
          case measure => simp [intOf]; omega
    · obtain rfl : i = x.o.length := by omega
      have HE := Lib.hid (And.intro (upto_all inL x.o inL_zero) (bel_trans H0.out.bel HL.out.2.2.2))
      clear hil
      go_wp2_with fail
      go_ret
      exact ⟨a, c, L, rfl, OwnE.mono9 HL.out.1 H0.out.bel.size, HL.out.2.1, fun y => by rw [HL.out.2.2.1 y, HE.out.1]; rfl, HE.out.2⟩
end Go.Proofs.Ytnklnklkblgnfaa
