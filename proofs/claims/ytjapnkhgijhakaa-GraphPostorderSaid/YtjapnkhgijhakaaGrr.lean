/- Contracts of the reference's Reverse and Pred. -/
import Derived.Test.YtjapnkhgijhakaaGmk
import Derived.Test.YtjapnkhgijhakaaGrv
import Derived.Test.YtjapnkhgijhakaaGse
namespace Go.Gra
open Go.Dfl (nth nth_mem mem_nth nth_eq nth_ext)
theorem revOf_of {es r : List (Int × Int)} (hs : es.Pairwise eLt) (h : SortOf (es.map swp) r) : RevOf es r := by
  have hn : es.Nodup := hs.imp fun {a b} h (e : a = b) => eLt_irrefl a (by rw [← e] at h; exact h)
  have hn2 : (es.map swp).Nodup := List.pairwise_map.2 (hn.imp fun h e => h (swp_inj e))
  have hn3 : r.Nodup := h.srt.imp fun {a b} h (e : a = b) => eLt_irrefl a (by rw [← e] at h; exact h)
  have hp : r.Perm (es.map swp) := (List.perm_ext_iff_of_nodup hn3 hn2).2 h.mem
  exact ⟨by rw [hp.length_eq, List.length_map], h⟩
end Go.Gra
namespace Go.Proofs.Ytjapnkhgijhakaa
open Go.RowKit Go.Dfl Go.Gra

set_option maxHeartbeats 3200000 in
set_option maxRecDepth 100000 in
theorem rReverse_any (g : G) (cv : Value) (W : World) (h : Pairs W cv g.es) : Calls Try.prog 29 #[GV g cv] W (RvrR g W) := by
  obtain ⟨ca, cc, rfl, -, -, -⟩ := pairs_rd h
  have hb1 : Below W.heap.size W (W.alloc (.cells #[.int .i64 g.n, .slice ca g.es.length cc] 25)) := (Below.refl _ _).alloc (Nat.le_refl _) _
  have hb2 : Below W.heap.size W ((W.alloc (.cells #[.int .i64 g.n, .slice ca g.es.length cc] 25)).alloc (.cells #[.int .i64 0, .slice none 0 0] 25)) := hb1.alloc (by rw [World.size_alloc]; omega) _
  have hbx := (BoxG.new W g.n (.slice ca g.es.length cc) 25).grown (grownBy_alloc _ (.cells #[.int .i64 0, .slice none 0 0] 25)) (by simp)
  have hgz : GZ ((W.alloc (.cells #[.int .i64 g.n, .slice ca g.es.length cc] 25)).alloc (.cells #[.int .i64 0, .slice none 0 0] 25)) (W.heap.size + 1) := by have h1 := heap_alloc_new (W.alloc (.cells #[.int .i64 g.n, .slice ca g.es.length cc] 25)) (.cells #[.int .i64 0, .slice none 0 0] 25); rw [World.size_alloc] at h1; exact h1
  have H0 := Lib.hid (And.intro (h.below hb2) (And.intro hb2 (And.intro hbx hgz)))
  clear h hb1 hb2 hbx hgz
  unfold GV
  go_enter Try.func29, Try.ntmps29
  go_wp2_with fail
  have hck := rCheck_any g (.slice ca g.es.length cc) _ H0.out.1
  unfold GV at hck
  refine hck.mono ?_
  rintro e W1 ⟨rfl, r1⟩
  have H1 := Lib.hid (And.intro (H0.out.1.below r1) (And.intro (H0.out.2.1.trans (r1.mono H0.out.2.1.size)) (And.intro (H0.out.2.2.1.below r1) (H0.out.2.2.2.below r1))))
  clear r1 hck
  obtain ⟨c0, c1⟩ := H1.out.2.2.1
  obtain ⟨⟨z0, z1⟩, zf0, zf1⟩ := H1.out.2.2.2.rd
  have n1 := H1.out.2.2.2.lt
  generalize hbs : W.heap.size = bs at *
  have HBS := Lib.hid hbs
  clear hbs
  by_cases hc : gCode g = 0
  · have q0 : (gCode g != 0) = false := by simpa using hc
    have hvg := gCode_ok.1 hc
    have hl := hvg.len
    have HC := Lib.hid (And.intro hc hvg)
    obtain ⟨ca', cc', hce, -, hci, hcc⟩ := pairs_rd H1.out.1
    simp only [Value.slice.injEq] at hce
    obtain ⟨rfl, -, rfl⟩ := hce
    have HCC := Lib.hid hcc
    clear hc hvg z0 z1 zf0 zf1 hcc
    go_wp2_with fail
    go_loopw [3, 4] (fun o x wr => ∃ (k : Nat) (oa : Option Addr) (oc : Nat), k ≤ g.es.length ∧ o = .slice oa k oc ∧ x = .int .i64 k ∧ Hid (OwnE elE wr W1.heap.size 39 (.slice oa k oc) ((g.es.take k).map swp) ∧ Below W1.heap.size W1 wr)) (fun _ x _ => g.es.length - (intOf x).toNat)
    case atStart => exact ⟨0, none, 0, by omega, rfl, rfl, OwnE.nil _ _ _ _, Below.refl _ _⟩
    case round =>
      obtain ⟨k, oa, oc, hk, rfl, rfl, hh⟩ := hrel
      have hsz := hh.out.2.size
      obtain ⟨d0, d1⟩ := H1.out.2.2.1.below hh.out.2
      by_cases hlt : k < g.es.length
      · have hbd : Below wr.heap.size wr wr.drew := (Below.refl _ _).drew
        have hbd1 : Below W1.heap.size W1 wr.drew := hh.out.2.trans (hbd.mono hsz)
        obtain ⟨p0, p1⟩ := (HCC.out k hlt).2 wr.drew hbd1
        obtain ⟨c0', c1'⟩ := H1.out.2.2.1.below hbd1
        obtain ⟨e, he⟩ : ∃ e, e = nth g.es k := ⟨_, rfl⟩
        rw [← he] at p0 p1
        have HE := Lib.hid he
        have hkl : (k : Int) < (g.es.length : Int) := by omega
        have hii := hci (k : Int) (by omega) (by omega)
        rw [Int.toNat_natCast] at hii
        have hlen : ((g.es.take k).map swp).length = k := by rw [List.length_map, List.length_take]; omega
        have HD := Lib.hid (And.intro (show OwnE elE wr.drew W1.heap.size 39 (.slice oa k oc) ((g.es.take k).map swp) from OwnE.grown hh.out.1 (grownBy_below hbd) (by cases (Value.slice oa k oc).ownBlock <;> simp)) (And.intro hbd1 hlen))
        clear he hbd hbd1 hlen hh
        obtain ⟨x, y⟩ := e
        dsimp only at p0 p1
        have hle8 : (k + 1) * 16 ≤ 140737488355328 := by omega
        have HH := Lib.hid (And.intro hle8 hl)
        clear hle8
        go_upto_region 7 with fail
        refine wp_region_plan (.take 0 (.take 1 (.take 2 (.take 3 (.take 4 (.take 5 (.take 6 (.take 7 (.take 8 (.take 9 (.take 10 (.take 11 (.take 12 (.take 13 (.alt 14 (.alt 15 (.alt 16 .done .stop) .stop) .stop)))))))))))))))
          (fun w' => w'.cell? ⟨bs, 1, none⟩ = some (.slice ca g.es.length cc) ∧ w'.cell? ⟨blk ca, ofs ca + k * 2, none⟩ = some (.int .i64 x) ∧ w'.cell? ⟨blk ca, ofs ca + k * 2 + 1, none⟩ = some (.int .i64 y)) (by kernel_rfl) (by kernel_rfl) (by kernel_rfl) (by kernel_rfl) ⟨c1', p0, p1⟩ ?_
        repeat (
          refine plan_take (v := ?_) rfl (Or.inl ⟨by rfl, ?_⟩) ?_
          rotate_left
          · (intro W hW; obtain ⟨q1, q2, q3⟩ := hW; go_simp; try with_reducible rfl)
          simp only [Act.put, List.setIfInBounds_toArray, List.getElem_toArray, List.getElem_cons_zero, List.getElem_cons_succ, List.set_cons_succ, List.set_cons_zero])
        have HS := Lib.hid (And.intro c1' (And.intro p0 p1))
        clear c0' c1' p0 p1
        generalize wr.drew = V at *
        refine plan_alt rfl ?_ plan_stop
        go_wp2_with fail
        have gA := grownBy_alloc V (.cells #[.int .i64 y, .int .i64 x] 39)
        refine tail_mk (HS.out.imp (fun h => gA.cell h (by simp)) fun h => h.imp (fun h => gA.cell h (by simp)) fun h => gA.cell h (by simp)) ?_
        have HS2 := Lib.hid (HS.out.imp (fun h => gA.cell h (by simp)) fun h => h.imp (fun h => gA.cell h (by simp)) fun h => gA.cell h (by simp))
        clear gA
        refine plan_alt rfl ?_ plan_stop
        (refine wp_appendE (E := elE) sEdge rfl rfl _ _ rfl rfl V.heap.size rfl (ownE_alloc HD.out.1 (.cells #[.int .i64 y, .int .i64 x] 39)) (y, x) (cells_new (cs := [.int .i64 y, .int .i64 x]) rfl) (by rw [HD.out.2.2]; exact HH.out.1) (by rw [HD.out.2.2]; omega) (by rw [World.size_alloc]; exact Nat.le_succ_of_le HD.out.2.1.size) ?_; intro v' w3 hown hgr hat; obtain ⟨s9, c9, rfl⟩ := hown.shape (n := k + 1) (by rw [List.length_append, HD.out.2.2]; rfl); have HO := Lib.hid (And.intro hown hgr); clear hown hgr hat)
        have hnb := OwnE.lt HD.out.1
        have hbs1 : bs < W1.heap.size := Nat.lt_of_succ_lt n1
        have hca : blk ca < W1.heap.size := (HCC.out k hlt).1
        have hS3 := HS2.out.imp (fun h => HO.out.2.cell h (fun e => by have := hnb _ e.symm; dsimp only at this; omega)) fun h => h.imp (fun h => HO.out.2.cell h (fun e => by have := hnb _ e.symm; dsimp only at this; omega)) fun h => HO.out.2.cell h (fun e => by have := hnb _ e.symm; dsimp only at this; omega)
        have HS3 := Lib.hid hS3
        clear hnb hbs1 hca hS3
        refine tail_mk HS3.out ?_
        refine plan_alt rfl ?_ plan_stop
        go_wp2_with fail
        refine tail_mk HS3.out ?_
        refine plan_done ?_
        go_wp2_with fail
        go_roundw
        case rel => exact ⟨k + 1, s9, c9, by omega, rfl, by go_num, by rw [take_snoc _ _ hlt, List.map_append, ← HE.out]; exact HO.out.1, (HD.out.2.1.alloc HD.out.2.1.size _).grown HO.out.2 (by rw [World.size_alloc]; have := HD.out.2.1.size; omega) (fun q e => (OwnE.lt HD.out.1 q e).1)⟩
        case measure => simp [intOf]; omega
      · obtain rfl : k = g.es.length := by omega
        rw [List.take_length] at hh
        obtain ⟨⟨z0, z1⟩, zf0, zf1⟩ := (H1.out.2.2.2.below hh.out.2).rd
        have hpr : Pairs wr (.slice oa g.es.length oc) (g.es.map swp) := own_pairs hh.out.1
        have HP := Lib.hid hpr
        clear hpr
        go_upto_region 8 with fail
        refine wp_region_plan (.take 0 (.take 1 (.take 2 (.alt 3 (.alt 4 (.alt 5 .done .stop) .stop) .stop)))) (fun w' => w'.cell? ⟨bs, 0, none⟩ = some (.int .i64 g.n)) (by kernel_rfl) (by kernel_rfl) (by kernel_rfl) (by kernel_rfl) d0 ?_
        refine plan_take (v := ?_) rfl (Or.inl ⟨by rfl, ?_⟩) ?_
        rotate_left
        · (intro W hW; go_simp; try with_reducible rfl)
        simp only [Act.put, List.getElem_toArray]
        refine plan_take (v := ?_) rfl (Or.inl ⟨by rfl, ?_⟩) ?_
        rotate_left
        · (intro W hW; go_simp; try with_reducible rfl)
        simp only [Act.put, List.getElem_toArray]
        refine plan_take (v := ?_) rfl (Or.inl ⟨by rfl, ?_⟩) ?_
        rotate_left
        · (intro W hW; go_simp; try with_reducible rfl)
        simp only [Act.put, List.getElem_toArray]
        have hbd : Below W1.heap.size W1 wr.drew := hh.out.2.drew
        have hgd : GZ wr.drew (bs + 1) := H1.out.2.2.2.below hbd
        have hpd := HP.out.below ((Below.refl wr.heap.size wr).drew)
        have HD := Lib.hid (And.intro hbd (And.intro hgd hpd))
        clear hbd hgd hpd
        generalize wr.drew = V at *
        refine plan_alt rfl ?_ plan_stop
        go_wp2_with fail
        refine (rSorted_any g.es.length (g.es.map swp) _ V (by rw [List.length_map]; exact Nat.le_refl _) (by rw [List.length_map]; omega) HD.out.2.2).mono ?_
        rintro e V2 ⟨a2, k2, r2, rfl, o2, t2, e2, b2⟩
        have hx2 : Below W1.heap.size W1 V2 := HD.out.1.trans (b2.mono HD.out.1.size)
        have hg2 := HD.out.2.1.below b2
        obtain ⟨c0', c1'⟩ := H1.out.2.2.1.below hx2
        obtain ⟨⟨z0, z1⟩, zf0, zf1⟩ := hg2.rd
        have H2 := Lib.hid (And.intro o2 (And.intro t2 (And.intro hx2 (And.intro hg2 b2))))
        clear o2 t2 e2 b2 hx2 hg2
        go_wp2_with fail
        refine tail_mk c0' ?_
        refine plan_alt rfl ?_ plan_stop
        go_wp2_with fail
        refine tail_mk c0' ?_
        refine plan_alt rfl ?_ plan_stop
        go_wp2_with fail
        have hne : (⟨bs, 0, none⟩ : Addr).block ≠ (⟨bs + 1, 0, none⟩ : Addr).block := by show bs ≠ bs + 1; omega
        refine tail_mk (by rw [World.cell?_setCell_other _ _ _ _ (fun e => by have := congrArg Addr.block e; dsimp only at this; omega), World.cell?_setCell_other _ _ _ _ (fun e => by have := congrArg Addr.block e; dsimp only at this; omega)]; exact c0') ?_
        refine plan_done ?_
        clear hne
        go_wp2_with fail
        refine bodyPost_ret (v := .agg #[.int .i64 g.n, .slice a2 r2.length k2]) (by rw [results_cell1 rfl]; go_simp; try rfl) rfl ?_
        have h2 := H2.out
        have hrv := revOf_of HC.out.2.srt h2.2.1
        refine .inr ⟨HC.out.1, a2, k2, r2, rfl, ?_, hrv, ?_⟩
        · have gf := grownBy_trans (grownBy_setCell V2 ⟨bs + 1, 0, none⟩ (.int .i64 g.n)) (grownBy_setCell _ ⟨bs + 1, 1, none⟩ (.slice a2 r2.length k2))
          refine OwnE.mono' (OwnE.grown h2.1 gf (.inr fun e => ?_)) (by have := HD.out.1.size; have := HBS.out; omega)
          have h7 := (OwnE.lt h2.1 _ e).1
          have h8 := HD.out.1.size
          have e9 : (⟨bs + 1, 0, none⟩ : Addr).block = bs + 1 := rfl
          omega
        · rw [HBS.out]; exact below2s (H1.out.2.1.trans (h2.2.2.1.mono (by omega))) (by omega) _ _
  · have q0 : (gCode g != 0) = true := by simpa using hc
    have HC := Lib.hid hc
    clear hc
    go_wp2_with fail
    refine bodyPost_ret (v := .agg #[.int .i64 0, .slice none 0 0]) (by rw [results_cell1 rfl]; go_simp; try rfl) rfl ?_
    exact .inl ⟨HC.out, rfl, by rw [HBS.out]; exact below2s H1.out.2.1 (by omega) _ _⟩
end Go.Proofs.Ytjapnkhgijhakaa
