/- Contract of build. -/
import Derived.Test.YtlijimdkadobmaaDnb
namespace Go.Gra
open Go.Dfl (nth nth_mem mem_nth nth_eq nth_ext nth_set)
/-- The positions, in the first k of the postorder. -/
def olK (l : List Nat) (n k : Nat) : List Int := (List.range n).map fun v => if l.idxOf v < k then (l.idxOf v : Int) else -1
theorem olK_len (l : List Nat) (n k : Nat) : (olK l n k).length = n := by simp [olK]
theorem olK_nth {l : List Nat} {n k v : Nat} (h : v < n) : nth (olK l n k) v = if l.idxOf v < k then (l.idxOf v : Int) else -1 := by
  rw [nth_eq _ _ (by rw [olK_len]; exact h)]; simp [olK]
theorem olK_zero (l : List Nat) (n : Nat) : olK l n 0 = List.replicate n (-1) := by
  rw [List.eq_replicate_iff]
  exact ⟨olK_len _ _ _, fun b hb => by simp [olK] at hb; exact hb.2.symm⟩
theorem olK_succ {l : List Nat} {n k : Nat} (hnd : l.Nodup) (hk : k < l.length) (hn : ∀ x ∈ l, x < n) : (olK l n k).set (nth l k) (k : Int) = olK l n (k + 1) := by
  have hv := hn _ (nth_mem _ _ hk)
  refine nth_ext (by rw [List.length_set, olK_len, olK_len]) fun i hi => ?_
  rw [List.length_set, olK_len] at hi
  rw [nth_set, olK_len, olK_nth hi, olK_nth hi]
  by_cases e : nth l k = i
  · subst e
    rw [if_pos ⟨rfl, hv⟩, idx_nth hnd hk, if_pos (by omega)]
  · rw [if_neg (fun h => e h.1)]
    have h1 : l.idxOf i ≠ k := fun h2 => by
      by_cases hm : i ∈ l
      · have h3 := nth_idx hm
        rw [h2] at h3; exact e h3
      · rw [List.idxOf_eq_length hm] at h2; omega
    by_cases h2 : l.idxOf i < k
    · rw [if_pos h2, if_pos (by omega)]
    · rw [if_neg h2, if_neg (by omega)]
end Go.Gra
namespace Go.Proofs.Ytlijimdkadobmaa
open Go.RowKit Go.Dfl Go.Gra Go.Dm
theorem olK_all {g : G} (h : VG g) {r : Nat} (hr : r < g.n.toNat) : OL (dmC g r) (olK (postL g r) g.n.toNat (postL g r).length) := by
  refine ⟨olK_len _ _ _, fun v hv => ?_, fun v hv hn => ?_⟩
  · rw [olK_nth (post_lt h hr hv), if_pos (List.idxOf_lt_length_of_mem hv)]; rfl
  · rw [olK_nth (show v < g.n.toNat from hv), if_neg]
    rw [List.idxOf_eq_length hn]; exact Nat.lt_irrefl _
theorem list_rd {w : World} {base : Nat} {s : Option Addr} {c : Nat} {L : List Nat} (h : OwnI w base 3 (.slice s L.length c) (L.map fun x : Nat => (x : Int))) {i : Nat} (hi : i < L.length) :
    w.cell? ⟨blk s, ofs s + i, none⟩ = some (.int .i64 ((nth L i : Nat) : Int)) ∧ (∀ Y, (Instr.indexAt 31 (.slice s L.length c) (.int .i64 (i : Int))).run Try.prog Y = .ok (.pointer (some ⟨blk s, ofs s + i, none⟩)) Y) := by
  obtain ⟨a9, c9, he, hm9, hidx, hcell, -⟩ := h.lst.out1 sIntG
  rw [List.length_map] at he hm9 hidx hcell
  simp only [Value.slice.injEq] at he
  obtain ⟨rfl, -, rfl⟩ := he
  have h1 := hcell i hi
  rw [map_cast_nth0 hi] at h1
  exact ⟨h1, fun Y => by have := hidx .i64 (i : Int) (by omega) (by omega) Y; rw [Int.toNat_natCast] at this; exact this⟩
theorem list_keep {w : World} {B1 base : Nat} {v : Value} {l : List Int} (h : OwnI w base 3 v l) (hb : B1 ≤ base) {p : Addr} (hp : p.block < B1) (u : Value) : OwnI (w.setCell p u) base 3 v l :=
  h.setOther (fun e => by have := (h.lt _ e).1; omega) u
theorem postZ_nat {g : G} (h : VG g) {r : Nat} (hr : r < g.n.toNat) : postZ g (r : Int) = postL g r := by
  have h1 : nodeG g (r : Int) = true := nodeG_iff.2 ⟨h, by omega, by have := h.n0; omega⟩
  unfold postZ
  rw [if_pos h1, Int.toNat_natCast]
/-- What the tree tells: 'up' before the root's own entry is struck out, and after. -/
structure TreeOk (g : G) (r : Nat) (up ol : List Int) (ll : List (List Int)) : Prop where
  ol : OL (dmC g r) ol
  lp : ll.length = g.n.toNat
  pr : ∀ v, v < g.n.toNat → nth ll v = (pre g.es v).map fun x : Nat => (x : Int)
  ok : UpOk (dmC g r) up
  all : ∀ v, v ∈ postL g r → Pr (dmC g r) up v
  anc : ∀ v a, v ∈ postL g r → (Anc up r v a ↔ Dom (dmC g r) v a)
def BuildR (g : G) (r : Nat) (W : World) (e : Ending) (W' : World) : Prop := ∃ (su so sp : Option Addr) (up ol : List Int) (vs : List Value) (ll : List (List Int)),
  e = .returned (.agg #[.slice su g.n.toNat g.n.toNat, .slice so g.n.toNat g.n.toNat, .slice sp g.n.toNat g.n.toNat]) ∧ TreeOk g r up ol ll ∧ Ints W' (.slice su g.n.toNat g.n.toNat) (up.set r (-1)) ∧ Ints W' (.slice so g.n.toNat g.n.toNat) ol ∧ Grid (Value.int .i64) W' (.slice sp g.n.toNat g.n.toNat) vs ll ∧ Below W.heap.size W W'
/-- Before the passes. -/
structure Bd0 (W1 : World) (n bt B1 : Nat) (su so sp : Option Addr) (up ol : List Int) (ll : List (List Int)) (W : World) : Prop where
  bd : ∃ vs, BdW W1 n bt B1 su so sp up ol vs ll W
set_option maxHeartbeats 6400000 in
set_option maxRecDepth 100000 in
theorem gBuild_any (g : G) (cv : Value) (r : Nat) (W : World) (h : Pairs W cv g.es) (hvg : VG g) (hr : r < g.n.toNat) : Calls Try.prog 32 #[GV g cv, .int .i64 (r : Int)] W (BuildR g r W) := by
  obtain ⟨ca, cc, rfl, -, hci, hcc⟩ := pairs_rd h
  have hal := (Below.refl W.heap.size W).alloc (Nat.le_refl _) (.cells #[.int .i64 g.n, .slice ca g.es.length cc] 24)
  have H1 := Lib.hid (And.intro (h.below hal) (And.intro hal (And.intro (BoxG.new W g.n (.slice ca g.es.length cc) 24) hcc)))
  obtain ⟨n, hn⟩ : ∃ n : Nat, g.n = n := ⟨g.n.toNat, by have := hvg.n0; omega⟩
  have hn8 : n ≤ 8192 := by have := hvg.n1; omega
  have hl := hvg.len
  have hrn : r < n := by omega
  have hCx := dmC_ok hvg hr
  have HV := Lib.hid (And.intro hvg (And.intro hn (And.intro hr hCx)))
  unfold GV
  rw [hn] at H1 ⊢
  clear h hal hcc hvg hn hr hCx
  obtain ⟨c0, c1⟩ := H1.out.2.2.1
  have n1 : W.heap.size < (W.alloc (.cells #[.int .i64 (n : Int), .slice ca g.es.length cc] 24)).heap.size := H1.out.2.2.1.lt
  go_enter Try.func32, Try.ntmps32
  go_wp2_with fail
  obtain ⟨W1, hW1⟩ : ∃ W1, W1 = (W.alloc (.cells #[.int .i64 (n : Int), .slice ca g.es.length cc] 24)).alloc (.cells #[.slice none 0 0, .slice none 0 0, .slice none 0 0] 56) := ⟨_, rfl⟩
  rw [← hW1]
  have hz0 : (W.alloc (.cells #[.int .i64 (n : Int), .slice ca g.es.length cc] 24)).heap.size = W.heap.size + 1 := World.size_alloc _ _
  have hb1 : Below (W.heap.size + 1) (W.alloc (.cells #[.int .i64 (n : Int), .slice ca g.es.length cc] 24)) W1 := by rw [hW1]; exact (Below.refl _ _).alloc (Nat.le_of_eq hz0.symm) _
  have hrb : W1.heap[W.heap.size + 1]? = some (.cells #[.slice none 0 0, .slice none 0 0, .slice none 0 0] 56) := by rw [hW1, ← hz0]; exact heap_alloc_new _ _
  have hz1 : W1.heap.size = W.heap.size + 2 := by rw [hW1, World.size_alloc, hz0]
  have hbx : BoxG W1 W.heap.size (n : Int) (.slice ca g.es.length cc) := H1.out.2.2.1.below (by rw [hz0]; exact hb1)
  have hbW : Below W.heap.size W W1 := H1.out.2.1.trans (hb1.mono (by omega))
  have hes : Pairs W1 (.slice ca g.es.length cc) g.es := H1.out.1.below (by rw [hz0]; exact hb1)
  have HW := Lib.hid (And.intro hbx (And.intro hbW (And.intro hrb (And.intro hz1 (And.intro hes H1.out.2.2.2)))))
  clear hW1 hz0 hb1 hrb hz1 hbx hbW hes H1 c0 c1 n1
  obtain ⟨c0, c1⟩ := HW.out.1
  obtain ⟨bs, hbs⟩ : ∃ bs, bs = W.heap.size := ⟨_, rfl⟩
  rw [← hbs] at c0 c1 ⊢
  have HBS := Lib.hid hbs
  clear hbs
  refine Go.Dfl.N.wp_region_makesR [0, 1, 3, 4, 6, 7] (mksD n) 9 25 [2, 5, 8] (fun b => .agg #[.slice (some ⟨b 2, 0, none⟩) n n, .slice (some ⟨b 5, 0, none⟩) n n, .slice (some ⟨b 8, 0, none⟩) n n]) [11] (fun w' => w'.cell? ⟨bs, 0, none⟩ = some (.int .i64 (n : Int))) W1.heap.size (Nat.le_refl _) (by kernel_rfl) (by simp [mksD, Go.Dfl.N.mkS, Go.Dfl.N.mkA]) (by simp [mksD, Go.Dfl.N.mkS, Go.Dfl.N.mkA]) (by simp) (by simp [mksD, Go.Dfl.N.mkS, Go.Dfl.N.mkA]) (by simp [mksD, Go.Dfl.N.mkS, Go.Dfl.N.mkA]) (fun b b' h => by rw [h 2 (by simp), h 5 (by simp), h 8 (by simp)]) (by kernel_rfl) (by kernel_rfl) (fun w w' hg hh => hg.cell hh (by simp)) c0 ?_
  repeat (
    refine wpHeads_cons (v := ?_) rfl (Or.inl ⟨by rfl, ?_⟩) ?_
    rotate_left
    · (intro W hW; go_simp; try with_reducible rfl)
    simp only [Act.put, List.setIfInBounds_toArray])
  refine wpHeads_nil ?_
  simp only [List.getElem_toArray, List.getElem_cons_zero, List.getElem_cons_succ, List.setIfInBounds_toArray, List.set_cons_zero, List.set_cons_succ]
  refine ⟨?_, ⟨⟨_, rfl, rfl, fun b a' hb hsz => ?_⟩, ?_⟩, ?_⟩
  rotate_left
  · have h1 := hb _ (by simp [mksD] : Go.Dfl.N.mkS 2 18 17 3 n (.int .i64 0) 1 ∈ mksD n) (by simp [Go.Dfl.N.mkS])
    have h2 := hb _ (by simp [mksD] : Go.Dfl.N.mkS 5 21 20 3 n (.int .i64 0) 1 ∈ mksD n) (by simp [Go.Dfl.N.mkS])
    have h3 := hb _ (by simp [mksD] : Go.Dfl.N.mkS 8 24 23 31 n (.slice none 0 0) 1 ∈ mksD n) (by simp [Go.Dfl.N.mkS])
    simp only [Go.Dfl.N.mkS] at h1 h2 h3
    refine Or.inl ⟨by simp [Region.wanted], fun w _ => ?_⟩
    simp only [List.getElem_toArray, List.getElem_cons_succ, List.getElem_cons_zero, execOp, List.map_toArray, List.map_cons, List.map_nil, h1, h2, h3]
    go_simp
  · intro m hm
    simp only [mksD, List.mem_cons, List.not_mem_nil, or_false] at hm
    rcases hm with rfl | rfl | rfl | rfl <;> simp [Go.Dfl.N.mkS, Go.Dfl.N.mkA]
  rotate_left
  · intro m hm
    simp only [mksD, List.mem_cons, List.not_mem_nil, or_false] at hm
    rcases hm with rfl | rfl | rfl | rfl
    · exact Go.Dfl.N.mkS_at sIntG ⟨_, rfl, rfl, rfl, rfl⟩ (by omega) (by unfold maxLen; omega) rfl
    · exact Go.Dfl.N.mkS_at sIntG ⟨_, rfl, rfl, rfl, rfl⟩ (by omega) (by unfold maxLen; omega) rfl
    · exact Go.Dfl.N.mkS_at sRowsG ⟨_, rfl, rfl, rfl, rfl⟩ (by omega) (by unfold maxLen; omega) rfl
    · exact Go.Dfl.N.mkA_at (z := .agg #[.slice none 0 0, .slice none 0 0, .slice none 0 0]) (by kernel_rfl) ⟨_, rfl, rfl, rfl, rfl⟩
  intro bq W2 hE hS2
  simp only [mksD, List.foldl_cons, List.foldl_nil, Go.Dfl.N.mkS, Go.Dfl.N.mkA, List.setIfInBounds_toArray, List.set_cons_zero, List.set_cons_succ]
  have hM := BdW.start (W0 := W1.drew) hE
  obtain ⟨e1, -, -⟩ := hE.is (Go.Dfl.N.mkA 10 5 2 56 #[.slice none 0 0, .slice none 0 0, .slice none 0 0]) (by simp [mksD])
  simp only [Go.Dfl.N.mkA] at e1
  have HM := Lib.hid hM
  clear hM hE c0 c1
  obtain ⟨bt, hbt⟩ : ∃ bt, bt = bq 10 := ⟨_, rfl⟩
  obtain ⟨su, hsu⟩ : ∃ su : Option Addr, su = some ⟨bq 2, 0, none⟩ := ⟨_, rfl⟩
  obtain ⟨so, hso⟩ : ∃ so : Option Addr, so = some ⟨bq 5, 0, none⟩ := ⟨_, rfl⟩
  obtain ⟨sp, hsp⟩ : ∃ sp : Option Addr, sp = some ⟨bq 8, 0, none⟩ := ⟨_, rfl⟩
  obtain ⟨B1, hB1⟩ : ∃ B1, B1 = W2.heap.size := ⟨_, rfl⟩
  have HM1 := HM.out
  rw [← hB1, ← hbt, ← hsu, ← hso, ← hsp] at HM1
  rw [← hbt] at e1
  rw [← hsu, ← hso, ← hsp, ← hbt]
  clear HM hbt hB1 hsu hso hsp
  have w0 : W2.cell? ⟨bt, 0, none⟩ = some (.slice none 0 0) := by simp [World.cell?, e1]
  have w1 : W2.cell? ⟨bt, 1, none⟩ = some (.slice none 0 0) := by simp [World.cell?, e1]
  have w2 : W2.cell? ⟨bt, 2, none⟩ = some (.slice none 0 0) := by simp [World.cell?, e1]
  have w3 : W2.frozen? ⟨bt, 0, none⟩ = false := by simp [World.frozen?, e1]
  have w4 : W2.frozen? ⟨bt, 1, none⟩ = false := by simp [World.frozen?, e1]
  have w5 : W2.frozen? ⟨bt, 2, none⟩ = false := by simp [World.frozen?, e1]
  have hnb : bs ≠ bt := by
    rintro rfl
    rw [World.cell?, e1] at hS2
    simp at hS2
  clear e1
  refine wpTailsH_cons rfl ?_
  go_wp2_with fail
  refine tail_mk (by
    have h8 : ∀ (Z : World) (j : Nat) (v : Value), Z.cell? ⟨bs, 0, none⟩ = some (.int .i64 (n : Int)) → (Z.setCell ⟨bt, j, none⟩ v).cell? ⟨bs, 0, none⟩ = some (.int .i64 (n : Int)) := fun Z j v hZ => by
      rw [World.cell?_setCell_other _ _ _ _ (by simp only [ne_eq, Addr.mk.injEq, not_and]; intro h; exact absurd h.symm hnb)]; exact hZ
    exact h8 _ _ _ (h8 _ _ _ (h8 _ _ _ hS2))) ?_
  refine wpTailsH_nil ?_
  refine K_gen (fun Z => BdW W1.drew n bt B1 su so sp (List.replicate n 0) (List.replicate n 0) (List.replicate n (.slice none 0 0)) (List.replicate n []) Z) HM1 ?_
  clear HM1 hS2 w0 w1 w2 w3 w4 w5 hnb
  intro W3 h3
  have hlt1 : bs < W1.heap.size := by have := HW.out.2.2.2.1; rw [HBS.out]; omega
  have hd1 : Below W1.heap.size W1 W1.drew := (Below.refl _ _).drew
  have HL1 := Lib.hid (And.intro hlt1 hd1)
  clear hlt1 hd1
  obtain ⟨c0, c1⟩ := (by have h9 := HW.out.1.below (HL1.out.2.trans h3.bel); rw [← HBS.out] at h9; exact h9 : BoxG W3 bs (n : Int) (.slice ca g.es.length cc))
  have H3 := Lib.hid h3
  clear h3
  go_wp2_with fail
  go_loopw [28] (fun x wr => ∃ (k : Nat) (up ol : List Int), k ≤ n ∧ x = .int .i64 (k : Int) ∧ Hid (BdW W1.drew n bt B1 su so sp up ol (List.replicate n (.slice none 0 0)) (List.replicate n []) wr ∧ ∀ j, j < k → nth up j = -1 ∧ nth ol j = -1)) (fun x _ => n - (intOf x).toNat)
  case atStart => exact ⟨0, _, _, by omega, rfl, H3.out, fun j hj => by omega⟩
  case round =>
    obtain ⟨k, up, ol, hk, rfl, hh⟩ := hrel
    clear c0 c1
    obtain ⟨hbd, hneg⟩ := hh.out
    by_cases hlt : k < n
    · have hkl : (k : Int) < (n : Int) := by omega
      go_upto_region 5 with fail
      have hbd2 := hbd.below ((Below.refl _ _).drew)
      have d0 := hbd2.c0
      have d1 := hbd2.c1
      obtain ⟨r1, i1, f1⟩ := hbd2.rdU hlt
      obtain ⟨r2, i2, f2⟩ := hbd2.rdO hlt
      have HB := Lib.hid (And.intro hbd2 hneg)
      clear hbd hbd2 hneg hh
      refine wp_region_mix [0, 1, 2, 3, 4, 5, 6] [7, 8, 9] (fun w' => w'.cell? ⟨bt, 0, none⟩ = some (.slice su n n) ∧ w'.cell? ⟨bt, 1, none⟩ = some (.slice so n n)) (by kernel_rfl) (by kernel_rfl) (by kernel_rfl) ⟨d0, d1⟩ ?_
      repeat (
        refine wpHeads_cons (v := ?_) rfl (Or.inl ⟨by rfl, ?_⟩) ?_
        rotate_left
        · (intro W hW; obtain ⟨q1, q2⟩ := hW; go_simp; try with_reducible rfl)
        simp only [Act.put, List.setIfInBounds_toArray, List.getElem_toArray, List.getElem_cons_zero, List.getElem_cons_succ, List.set_cons_succ, List.set_cons_zero])
      refine wpHeads_nil ?_
      generalize wr.drew = V at *
      refine wpTails_cons rfl ?_
      go_wp2_with fail
      have hu := HB.out.1.setU k (-1)
      refine tail_mk ⟨hu.c0, hu.c1⟩ ?_
      refine wpTails_cons rfl ?_
      go_wp2_with fail
      refine tail_mk ⟨hu.c0, hu.c1⟩ ?_
      refine wpTails_one rfl ?_
      obtain ⟨r3, -, f3⟩ := hu.rdO hlt
      have ho := hu.setO k (-1)
      have HO := Lib.hid ho
      clear hu ho r1 i1 f1 r2 f2 d0 d1
      go_wp2_with fail
      refine thenQ_mk ?_
      go_wp2_with fail
      go_roundw
      case rel =>
        refine ⟨k + 1, _, _, by omega, by go_num, HO.out, fun j hj => ?_⟩
        rw [nth_set, nth_set]
        by_cases e : k = j
        · subst e
          rw [if_pos ⟨rfl, by rw [HB.out.1.lu]; exact hlt⟩, if_pos ⟨rfl, by rw [HB.out.1.lo]; exact hlt⟩]
          exact ⟨rfl, rfl⟩
        · rw [if_neg (fun h => e h.1), if_neg (fun h => e h.1)]
          exact HB.out.2 j (by omega)
      case measure => simp [intOf]; omega
    · obtain rfl : n = k := by omega
      have e1 : up = List.replicate n (-1) := nth_ext (by rw [hbd.lu, List.length_replicate]) fun i hi => by
        rw [hbd.lu] at hi
        rw [(hneg i hi).1, nth_eq _ _ (by simpa using hi), List.getElem_replicate]
      have e2 : ol = List.replicate n (-1) := nth_ext (by rw [hbd.lo, List.length_replicate]) fun i hi => by
        rw [hbd.lo] at hi
        rw [(hneg i hi).2, nth_eq _ _ (by simpa using hi), List.getElem_replicate]
      subst e1
      subst e2
      have hBW : ∀ Z, Below W1.heap.size W1.drew Z → Below W.heap.size W Z := fun Z hZ => HW.out.2.1.trans ((HL1.out.2.trans hZ).mono (by have := HW.out.2.2.2.1; omega))
      have hbox : ∀ Z, Below W1.heap.size W1.drew Z → BoxG Z bs (n : Int) (.slice ca g.es.length cc) := fun Z hZ => by
        have h9 := HW.out.1.below (HL1.out.2.trans hZ)
        rw [← HBS.out] at h9; exact h9
      have H4 := Lib.hid (show BdW W1.drew n bt B1 su so sp (List.replicate n (-1)) (List.replicate n (-1)) (List.replicate n (.slice none 0 0)) (listsTo (sw g.es) n 0) wr by rw [listsTo_zero]; exact hbd)
      have HBX := Lib.hid (And.intro hBW hbox)
      obtain ⟨c0, c1⟩ := hbox wr hbd.bel
      clear hBW hbox hbd hneg hh hlt hk H3
      go_wp2_with fail
      go_loopw [43] (fun x wr => ∃ (i : Nat) (vs : List Value), i ≤ g.es.length ∧ x = .int .i64 (i : Int) ∧ Hid (BdW W1.drew n bt B1 su so sp (List.replicate n (-1)) (List.replicate n (-1)) vs (listsTo (sw g.es) n i) wr)) (fun x _ => g.es.length - (intOf x).toNat)
      case atStart => exact ⟨0, _, by omega, rfl, H4.out⟩
      case round =>
        obtain ⟨k, vs, hk, rfl, hh⟩ := hrel
        clear c0 c1
        by_cases hlt : k < g.es.length
        · obtain ⟨p0, p1⟩ := (HW.out.2.2.2.2.2 k hlt).2 _ (HBX.out.1 _ hh.out.bel)
          obtain ⟨e, he⟩ : ∃ e, e = nth g.es k := ⟨_, rfl⟩
          rw [← he] at p0 p1
          have hin := HV.out.1.nth hlt
          rw [← he] at hin
          have HE := Lib.hid he
          have hkl : (k : Int) < (g.es.length : Int) := by omega
          have hcik := hci (k : Int) (by omega) (by omega)
          rw [Int.toNat_natCast] at hcik
          obtain ⟨x, y⟩ := e
          dsimp only at p0 p1 hin
          obtain ⟨a, rfl⟩ : ∃ a : Nat, y = a := ⟨y.toNat, by omega⟩
          have han : a < n := by have := HV.out.2.1; omega
          clear he
          go_upto_region 10 with fail
          have hnew := cells_new (W := wr) (cs := [.int .i64 x, .int .i64 (a : Int)]) (t := 53) rfl
          have hb0 := (Below.refl wr.heap.size wr).alloc (Nat.le_refl _) (.cells #[.int .i64 x, .int .i64 (a : Int)] 53)
          have hz : (wr.alloc (.cells #[.int .i64 x, .int .i64 (a : Int)] 53)).heap.size = wr.heap.size + 1 := World.size_alloc _ _
          refine gen_code (fun V => (V.cell? ⟨wr.heap.size, 0, none⟩ = some (.int .i64 x) ∧ V.cell? ⟨wr.heap.size, 1, none⟩ = some (.int .i64 (a : Int))) ∧ BdW W1.drew n bt B1 su so sp (List.replicate n (-1)) (List.replicate n (-1)) vs (listsTo (sw g.es) n k) V ∧ V.heap.size = wr.heap.size + 1) ⟨⟨hnew 0 _ rfl, hnew 1 _ rfl⟩, hh.out.below hb0, hz⟩ ?_
          rintro V ⟨⟨q0, q1⟩, v1, v3⟩
          have hbe : B1 ≤ wr.heap.size := by obtain ⟨-, -, -, -, -, -, -, h8, -⟩ := hh.out.ne; exact h8
          have hft : ∀ q, Foot (.slice sp n n) vs q → q < wr.heap.size := fun q hq => (hh.out.p.foot kIIg q hq).2
          clear hnew hb0 hz p0 p1 hh
          generalize wr.heap.size = be at *
          have hll : (listsTo (sw g.es) n k).length = n := listsTo_len _ _ _
          have hvl : vs.length = n := v1.lv
          have hbd : Below V.heap.size V V.drew := (Below.refl _ _).drew
          have hq0 := (hbd.cell (p := ⟨be, 0, none⟩) (by show be < _; omega)).trans q0
          have hq1 := (hbd.cell (p := ⟨be, 1, none⟩) (by show be < _; omega)).trans q1
          have hv1 := v1.below hbd
          have hv3 : V.drew.heap.size = be + 1 := v3
          clear q0 q1 v1 v3 hbd
          have d2 := hv1.c2
          obtain ⟨ccl, i4, hfz⟩ := hv1.rdP han
          obtain ⟨n1, n2, n3, ⟨n4, n4'⟩, ⟨n5, n5'⟩, ⟨n6, n6'⟩, n7, n8, n9⟩ := hv1.ne
          have hne1 : blk sp ≠ be := by omega
          have hne2 : bt ≠ be := by omega
          have hna : ∀ q, (nth vs a).ownBlock = some q → q < be ∧ q ≠ blk sp ∧ q ≠ bt := fun q hq => ⟨hft q (.inr ⟨a, by omega, hq⟩), by have := hv1.rows a han q hq; omega, by have := hv1.rows a han q hq; omega⟩
          have hlen : (nth (listsTo (sw g.es) n k) a).length ≤ k := by rw [listsTo_nth han]; exact succK_len _ _ _
          have hsw := sw_nth hlt
          rw [← HE.out] at hsw
          dsimp only at hsw
          have hsu := listsTo_succ (es := sw g.es) (n := n) (by rw [sw_len]; exact hlt) (a := a) (by rw [hsw]) han
          rw [hsw] at hsu
          dsimp only at hsu
          have HS := Lib.hid (And.intro hq0 (And.intro hq1 (And.intro ccl d2)))
          have HH := Lib.hid (And.intro hv1 (And.intro hna (And.intro hlen (And.intro hsu (And.intro hvl hll)))))
          clear hna hlen hsu hq0 hq1 ccl hv1 hft hvl hll d2 hsw n1 n2 n3 n4 n4' n5 n5' n6 n6' n7 n8 n9 hin
          refine wp_region_mix [0, 1, 2, 3, 4, 5, 6, 7, 8, 9, 10, 11] [12, 13, 14, 15] (fun w' => w'.cell? ⟨be, 0, none⟩ = some (.int .i64 x) ∧ w'.cell? ⟨be, 1, none⟩ = some (.int .i64 (a : Int)) ∧ w'.cell? ⟨blk sp, ofs sp + a, none⟩ = some (nth vs a) ∧ w'.cell? ⟨bt, 2, none⟩ = some (.slice sp n n)) (by kernel_rfl) (by kernel_rfl) (by kernel_rfl) HS.out ?_
          repeat (
            refine wpHeads_cons (v := ?_) rfl (Or.inl ⟨by rfl, ?_⟩) ?_
            rotate_left
            · (intro W hW; obtain ⟨q1, q2, q3, q4⟩ := hW; go_simp; try with_reducible rfl)
            simp only [Act.put, List.setIfInBounds_toArray, List.getElem_toArray, List.getElem_cons_zero, List.getElem_cons_succ, List.set_cons_succ, List.set_cons_zero])
          refine wpHeads_nil ?_
          generalize V.drew = Z at *
          refine wpTails_cons rfl ?_
          go_wp2_with fail
          have gA := grownBy_alloc Z (.cells #[.int .i64 x] 3)
          have HS2 := Lib.hid (HS.out.imp (fun h => gA.cell h (by simp)) fun h => h.imp (fun h => gA.cell h (by simp)) fun h => h.imp (fun h => gA.cell h (by simp)) fun h => gA.cell h (by simp))
          have HA := Lib.hid (And.intro (HH.out.1.grown gA (by simp)) (cell_alloc1 Z (.int .i64 x) 3))
          clear gA
          refine tail_mk HS2.out ?_
          refine wpTails_cons rfl ?_
          refine wp_append1at (f := Value.int .i64) sIntG rfl _ rfl _ _ rfl W1.drew.heap.size (nth vs a) (nth (listsTo (sw g.es) n k) a) rfl (HA.out.1.p.inn a (by rw [HH.out.2.2.2.2.2]; exact han)) x ⟨be + 1, 0, none⟩ rfl (by rw [← hv3]; exact HA.out.2) rfl (by have := HH.out.2.2.1; omega) (by omega) (HA.out.1.bel.size) ?_
          intro v31 w31 o31 g31 l31
          obtain ⟨s31, c31, rfl⟩ := o31.shape (n := (nth (listsTo (sw g.es) n k) a).length + 1) (by simp)
          have hS3 := HS2.out.imp (fun h => g31.cell h (fun e => by have := (HH.out.2.1 _ e.symm).1; dsimp only at this; omega)) fun h => h.imp (fun h => g31.cell h (fun e => by have := (HH.out.2.1 _ e.symm).1; dsimp only at this; omega)) fun h => h.imp (fun h => g31.cell h (fun e => (HH.out.2.1 _ e.symm).2.1 rfl)) fun h => g31.cell h (fun e => (HH.out.2.1 _ e.symm).2.2 rfl)
          have HS3 := Lib.hid hS3
          clear hS3
          refine tail_mk HS3.out ?_
          refine wpTails_cons rfl ?_
          go_wp2_with fail
          refine tail_mk HS3.out ?_
          refine wpTails_one rfl ?_
          have hf31 := (HA.out.1.p.outAt (by rw [HH.out.2.2.2.2.2]; exact han) g31).frozen (by rw [HH.out.2.2.2.2.1]; omega) (ofs sp + a)
          have hc31 := HS3.out.2.2.1
          have hput := HA.out.1.put han g31 o31 (fun q hq => by
            rcases l31 with e | e
            · left; rw [← e, hq]
            · right; rw [e] at hq; have := Option.some.inj hq; omega)
          have HQ := Lib.hid hput
          clear o31 g31 l31 hput
          go_wp2_with fail
          refine thenQ_mk ?_
          go_wp2_with fail
          go_roundw
          case rel => exact ⟨k + 1, vs.set a (.slice s31 ((nth (listsTo (sw g.es) n k) a).length + 1) c31), by omega, by go_num, by have h9 := HQ.out; rw [HH.out.2.2.2.1] at h9; exact h9⟩
          case measure => simp [intOf]; omega
        · obtain rfl : k = g.es.length := by omega
          obtain ⟨ll, hll⟩ : ∃ ll, ll = listsTo (sw g.es) n g.es.length := ⟨_, rfl⟩
          rw [← hll] at hh
          have hpr : ∀ v, v < n → nth ll v = (pre g.es v).map fun x : Nat => (x : Int) := fun v hv => by rw [hll, listsTo_nth hv, succK_sw HV.out.1]
          have hbd := hh.out
          have HPR := Lib.hid hpr
          have HB := Lib.hid hbd
          obtain ⟨c0, c1⟩ := HBX.out.2 wr hbd.bel
          have hes : Pairs wr (.slice ca g.es.length cc) g.es := HW.out.2.2.2.2.1.below (HL1.out.2.trans hbd.bel)
          have hc := gPostorder_own g (.slice ca g.es.length cc) (r : Int) wr hes
          unfold GV at hc
          rw [HV.out.2.1] at hc
          have HC := Lib.hid hc
          clear hc hes hbd hpr hll hh hlt hk H4
          go_wp2_with fail
          refine HC.out.mono ?_
          rintro e W4 ⟨la, lc, rfl, il, b4⟩
          rw [postZ_nat HV.out.1 HV.out.2.2.1] at il ⊢
          obtain ⟨L, hL⟩ : ∃ L, L = postL g r := ⟨_, rfl⟩
          rw [← hL] at il ⊢
          obtain ⟨g1, g2⟩ := dmC_last HV.out.1 HV.out.2.2.1
          obtain ⟨g3, -, -, -⟩ := postL_spec HV.out.1 HV.out.2.2.1
          have g4 : ∀ x ∈ postL g r, x < n := fun x hx => by have := post_lt HV.out.1 HV.out.2.2.1 hx; have := HV.out.2.1; omega
          rw [← hL] at g1 g2 g3 g4
          have g2' : L.length ≤ n := by have := HV.out.2.1; omega
          have g5 : 0 < L.length := by omega
          have h40 : BdW W1.drew n bt B1 su so sp (List.replicate n (-1)) (olK L n 0) vs ll W4 := by rw [olK_zero]; exact HB.out.below b4
          obtain ⟨B4, hB4⟩ : ∃ B4, B4 = wr.heap.size := ⟨_, rfl⟩
          rw [← hB4] at il
          have hB14 : B1 ≤ B4 := by obtain ⟨-, -, -, -, -, -, -, h8, -⟩ := HB.out.ne; omega
          have H40 := Lib.hid (And.intro h40 il)
          have HL := Lib.hid (And.intro hL (And.intro g1 (And.intro g3 (And.intro g4 hB14))))
          clear il b4 hL g1 g2 g3 g4 h40 HC HB c0 c1 hB4 hB14
          go_wp2_with fail
          go_loopw [68] (fun x wr => ∃ i : Nat, i ≤ L.length ∧ x = .int .i64 (i : Int) ∧ Hid (BdW W1.drew n bt B1 su so sp (List.replicate n (-1)) (olK L n i) vs ll wr ∧ OwnI wr B4 3 (.slice la L.length lc) (L.map fun x : Nat => (x : Int)))) (fun x _ => L.length - (intOf x).toNat)
          case atStart => exact ⟨0, by omega, rfl, H40.out⟩
          case round =>
            obtain ⟨i, hi, rfl, hh⟩ := hrel
            by_cases hlt : i < L.length
            · have hil : (i : Int) < (L.length : Int) := by omega
              obtain ⟨r1, i1⟩ := list_rd hh.out.2 hlt
              obtain ⟨v, hv⟩ : ∃ v, v = nth L i := ⟨_, rfl⟩
              have hvn : v < n := by rw [hv]; exact HL.out.2.2.2.1 _ (nth_mem _ _ hlt)
              rw [← hv] at r1
              have d1 := hh.out.1.c1
              obtain ⟨r2, i2, f2⟩ := hh.out.1.rdO hvn
              have hso := olK_succ HL.out.2.2.1 hlt HL.out.2.2.2.1
              rw [← hv] at hso
              have hst := hh.out.1.setO v (i : Int)
              rw [hso] at hst
              have hlk := list_keep hh.out.2 HL.out.2.2.2.2 (p := ⟨blk so, ofs so + v, none⟩) (by obtain ⟨-, -, -, -, h5, -⟩ := hh.out.1.ne; exact h5.2) (.int .i64 (i : Int))
              have HST := Lib.hid (And.intro hst hlk)
              clear hst hso hv hh hlk
              go_wp2_with fail
              go_roundw
              case rel => exact ⟨i + 1, by omega, by go_num, HST.out⟩
              case measure => simp [intOf]; omega
            · obtain rfl : i = L.length := by omega
              obtain ⟨ol, hol⟩ : ∃ ol, ol = olK L n L.length := ⟨_, rfl⟩
              have hOL : OL (dmC g r) ol := by
                have h9 := olK_all HV.out.1 HV.out.2.2.1
                rw [← HL.out.1, show g.n.toNat = n by have := HV.out.2.1; omega, ← hol] at h9
                exact h9
              have h0 := hh.out
              rw [← hol] at h0
              have d0 := h0.1.c0
              obtain ⟨r2, i2, f2⟩ := h0.1.rdU hrn
              have hst := h0.1.setU r (r : Int)
              have hlk := list_keep h0.2 HL.out.2.2.2.2 (p := ⟨blk su, ofs su + r, none⟩) (by obtain ⟨-, -, -, h5, -⟩ := hh.out.1.ne; exact h5.2) (.int .i64 (r : Int))
              have hnn : (dmC g r).n = n := by show g.n.toNat = n; have := HV.out.2.1; omega
              obtain ⟨hinv, hlv⟩ := Go.Dm.Inv.start (C := dmC g r) (up := (List.replicate n (-1)).set r (r : Int)) HV.out.2.2.2 (by rw [List.length_set, List.length_replicate, hnn]) (by
                show nth _ r = _
                rw [nth_set, if_pos ⟨rfl, by rw [List.length_replicate]; exact hrn⟩]; rfl) (fun v hv hne => by
                rw [nth_set, if_neg (fun e => hne e.1.symm), nth_eq _ _ (by rw [List.length_replicate]; omega), List.getElem_replicate])
              have HST := Lib.hid (And.intro hst (And.intro hlk (And.intro hinv hlv)))
              have HOL := Lib.hid (And.intro hOL hnn)
              clear hst hlk hinv hlv hOL hol h0 hh hlt hi hnn H40
              go_wp2_with fail
              go_loopg [12] (n + 3) (fun gk bb wr => ∃ (k : Nat) (again : Bool) (up : List Int), bb = .bool again ∧ k + gk = n + 3 ∧ Hid (BdW W1.drew n bt B1 su so sp up ol vs ll wr ∧ OwnI wr B4 3 (.slice la L.length lc) (L.map fun x : Nat => (x : Int)) ∧ Go.Dm.Inv (dmC g r) up ∧ Lv (dmC g r) up k ∧ (again = true → k ≤ n + 1) ∧ (again = false → (∀ v, (dmC g r).S v → Pr (dmC g r) up v) ∧ ∀ v a, (dmC g r).S v → (Anc up r v a ↔ Dom (dmC g r) v a))))
              case atStart => exact ⟨0, true, _, rfl, by omega, HST.out.1, HST.out.2.1, HST.out.2.2.1, HST.out.2.2.2, fun _ => by omega, fun h => by cases h⟩
              case round =>
                obtain ⟨k, again, up, rfl, hgk, hh⟩ := hrel
                cases again
                · obtain ⟨h1, h2, h3, h4, -, h6⟩ := hh.out
                  have hF := h6 rfl
                  have hrb : wr.heap[bs + 1]? = some (.cells #[.slice none 0 0, .slice none 0 0, .slice none 0 0] 56) := by
                    have hlt9 : bs + 1 < W1.heap.size := by have := HW.out.2.2.2.1; rw [HBS.out]; omega
                    have h9 := HW.out.2.2.1
                    rw [← HBS.out] at h9
                    rw [(HL1.out.2.trans h1.bel).block _ hlt9]; exact h9
                  have hst := h1.setU r (-1)
                  have hrb2 : (wr.setCell ⟨blk su, ofs su + r, none⟩ (.int .i64 (-1))).heap[bs + 1]? = some (.cells #[.slice none 0 0, .slice none 0 0, .slice none 0 0] 56) := by
                    have hlt9 : bs + 1 < W1.heap.size := by have := HW.out.2.2.2.1; rw [HBS.out]; omega
                    rw [(HL1.out.2.trans hst.bel).block _ hlt9, ← (HL1.out.2.trans h1.bel).block _ hlt9]; exact hrb
                  obtain ⟨V, hV⟩ : ∃ V, V = wr.setCell ⟨blk su, ofs su + r, none⟩ (.int .i64 (-1)) := ⟨_, rfl⟩
                  rw [← hV] at hst hrb2
                  have w0 : V.cell? ⟨bs + 1, 0, none⟩ = some (.slice none 0 0) := by simp [World.cell?, hrb2]
                  have w1 : V.cell? ⟨bs + 1, 1, none⟩ = some (.slice none 0 0) := by simp [World.cell?, hrb2]
                  have w2 : V.cell? ⟨bs + 1, 2, none⟩ = some (.slice none 0 0) := by simp [World.cell?, hrb2]
                  have w3 : V.frozen? ⟨bs + 1, 0, none⟩ = false := by simp [World.frozen?, hrb2]
                  have w4 : V.frozen? ⟨bs + 1, 1, none⟩ = false := by simp [World.frozen?, hrb2]
                  have w5 : V.frozen? ⟨bs + 1, 2, none⟩ = false := by simp [World.frozen?, hrb2]
                  have d0 := h1.c0
                  obtain ⟨r2, i2, f2⟩ := h1.rdU hrn
                  have v0 := hst.c0
                  have v1 := hst.c1
                  have v2 := hst.c2
                  have HF := Lib.hid (And.intro hF (And.intro hst h3))
                  have HVV := Lib.hid hV
                  clear hF hst h1 h2 h3 h4 h6 hh hrb hrb2 hV HST
                  go_upto_region 31 with fail
                  rw [← HVV.out]
                  clear r2 i2 f2 d0
                  go_wp2_with fail
                  refine bodyPost_ret (v := .agg #[.slice su n n, .slice so n n, .slice sp n n]) (by rw [results_cell1 rfl]; go_simp; try rfl) rfl ?_
                  have gf := grownBy_trans (grownBy_trans (grownBy_setCell V ⟨bs + 1, 0, none⟩ (.slice su n n)) (grownBy_setCell _ ⟨bs + 1, 1, none⟩ (.slice so n n))) (grownBy_setCell _ ⟨bs + 1, 2, none⟩ (.slice sp n n))
                  dsimp only at gf
                  obtain ⟨⟨f1, f2⟩, f3, f4⟩ := HF.out
                  have hbW := HBX.out.1 V f3.bel
                  have hlt9 : bs + 1 < W1.drew.heap.size := by have := HW.out.2.2.2.1; show bs + 1 < W1.heap.size; rw [HBS.out]; omega
                  have hu1 := f3.u.grown gf (.inr (by rw [f3.bu]; intro e; have h9 := (f3.u.lt _ f3.bu).1; have := Option.some.inj e; omega))
                  have ho1 := f3.o.grown gf (.inr (by rw [f3.bo]; intro e; have h9 := (f3.o.lt _ f3.bo).1; have := Option.some.inj e; omega))
                  have hp1 := f3.p.grown kIIg gf (fun q e hf => by have h9 := (f3.p.foot kIIg q hf).1; have := Option.some.inj e; omega)
                  have hnn : g.n.toNat = n := by have := HV.out.2.1; omega
                  refine ⟨su, so, sp, up, ol, vs, ll, ?_⟩
                  rw [hnn]
                  exact ⟨rfl, ⟨HOL.out.1, by rw [hnn]; exact f3.lp, fun v hv => HPR.out v (by omega), f4.ok, f1, f2⟩, hu1.lst, ho1.lst, hp1.grid, hbW.grown gf hbW.size (fun q e => by have := Option.some.inj e; rw [HBS.out] at this; omega)⟩
                · obtain ⟨h1, h2, h3, h4, h5, -⟩ := hh.out
                  have hk := h5 rfl
                  have hP0 := Pas.start (P := pre g.es) HV.out.2.2.2 h3 h4
                  have HP0 := Lib.hid (And.intro h1 (And.intro h2 hP0))
                  have hwl : IntKind.i64.wrap ((L.length : Int) - 2) = (L.length : Int) - 2 := IntWalk.i64_in _ (by omega)
                  clear h1 h2 h3 h4 h5 hh hP0 HST r2 i2 f2 d0
                  go_wp2_with fail
                  go_loopw [12, 13] (fun bb x wr => ∃ (i : Int) (ag : Bool) (up2 : List Int), bb = .bool ag ∧ x = .int .i64 i ∧ -1 ≤ i ∧ i + 2 ≤ L.length ∧ Hid (BdW W1.drew n bt B1 su so sp up2 ol vs ll wr ∧ OwnI wr B4 3 (.slice la L.length lc) (L.map fun x : Nat => (x : Int)) ∧ Pas (dmC g r) (pre g.es) k (i + 1).toNat up2 ag)) (fun _ x _ => (intOf x + 1).toNat)
                  case atStart => exact ⟨_, false, up, rfl, rfl, by omega, by omega, HP0.out.1, HP0.out.2.1, by
                    have h9 := HP0.out.2.2
                    rw [show ((L.length : Int) - 2 + 1).toNat = (dmC g r).ord (dmC g r).r by
                      show _ = (postL g r).idxOf r
                      rw [← HL.out.1]; have := HL.out.2.1; omega]
                    exact h9⟩
                  case round =>
                    obtain ⟨i, ag, up2, rfl, rfl, hi1, hi2, hh⟩ := hrel
                    by_cases hi0 : 0 ≤ i
                    · obtain ⟨m, rfl⟩ : ∃ m : Nat, i = (m : Int) := ⟨i.toNat, by omega⟩
                      have hq1 : decide ((m : Int) ≥ 0) = true := decide_eq_true (by omega)
                      have hmL : m < L.length := by omega
                      obtain ⟨q1, q2, q3⟩ := hh.out
                      obtain ⟨r1, i1⟩ := list_rd q2 hmL
                      obtain ⟨v, hv⟩ : ∃ v, v = nth L m := ⟨_, rfl⟩
                      have hvL : v ∈ L := by rw [hv]; exact nth_mem _ _ hmL
                      have hvn : v < n := HL.out.2.2.2.1 v hvL
                      rw [← hv] at r1
                      have hS : (dmC g r).S v := by show v ∈ postL g r; rw [← HL.out.1]; exact hvL
                      have hov : (dmC g r).ord v = m := by
                        show (postL g r).idxOf v = m
                        rw [← HL.out.1, hv]; exact idx_nth HL.out.2.2.1 hmL
                      have hvr : v ≠ (dmC g r).r := fun e => by
                        have h9 : (postL g r).idxOf r = m := by rw [← hov, e]; rfl
                        rw [← HL.out.1] at h9
                        have := HL.out.2.1
                        omega
                      have hm1 : ((m : Int) + 1).toNat = m + 1 := by omega
                      rw [hm1, ← hov] at q3
                      have d0 := q1.c0
                      have d1 := q1.c1
                      have d2 := q1.c2
                      have hcall := nearest_any (dmC g r) HV.out.2.2.2 (.slice su n n) (.slice so n n) (.slice sp n n) up2 ol vs ll wr q1.u.lst q1.o.lst q1.p.grid q3.inv.ok HOL.out.1 v (pre g.es v) (by rw [q1.lp]; exact hvn) (HPR.out v hvn) (fun x hx => by
                        obtain ⟨e, he, rfl⟩ := List.mem_map.1 hx
                        have h9 := HV.out.1.inn e (List.mem_filter.1 he).1
                        show e.1.toNat < g.n.toNat
                        omega)
                      have HQ := Lib.hid (And.intro q1 (And.intro q2 (And.intro q3 (And.intro hS (And.intro hvr hov)))))
                      have HCA := Lib.hid hcall
                      clear q1 q2 q3 hS hvr hov hcall hh hvL hv hm1 HP0
                      go_wp2_with fail
                      refine HCA.out.mono ?_
                      rintro e W5 ⟨f, rfl, hf, b5⟩
                      have q1 := HQ.out.1.below b5
                      have q2 := HQ.out.2.1.below b5
                      have d0 := q1.c0
                      obtain ⟨r2, i2, f2⟩ := q1.rdU hvn
                      obtain ⟨z, hz⟩ : ∃ z, z = nth up2 v := ⟨_, rfl⟩
                      rw [← hz] at r2
                      have hq2 : IntKind.i64.wrap ((m : Int) - 1) = (m : Int) - 1 := IntWalk.i64_in _ (by omega)
                      by_cases hfz : f = z
                      · have hbf : (f != z) = false := by simpa using hfz
                        have hk2 := HQ.out.2.2.1.keep HV.out.2.2.2 (fun v p _ _ => mem_pre HV.out.1) HQ.out.2.2.2.1 HQ.out.2.2.2.2.1 (by rw [← hz, ← hfz]; exact hf)
                        rw [HQ.out.2.2.2.2.2] at hk2
                        have HR := Lib.hid (And.intro q1 (And.intro q2 hk2))
                        clear q1 q2 hk2 hz hfz hf b5
                        go_wp2_with fail
                        go_roundw
                        case rel => exact ⟨_, ag, up2, rfl, rfl, by omega, by omega, HR.out.1, HR.out.2.1, by rw [show ((m : Int) - 1 + 1).toNat = m by omega]; exact HR.out.2.2⟩
                        case measure => simp [intOf]
                      · have hbf : (f != z) = true := by simpa using hfz
                        have hk2 := HQ.out.2.2.1.change HV.out.2.2.2 (fun v p _ _ => mem_pre HV.out.1) (by have := HOL.out.2; omega) HQ.out.2.2.2.1 HQ.out.2.2.2.2.1 hf (by rw [← hz]; exact hfz)
                        rw [HQ.out.2.2.2.2.2] at hk2
                        have hst := q1.setU v f
                        have hlk := list_keep q2 HL.out.2.2.2.2 (p := ⟨blk su, ofs su + v, none⟩) (by obtain ⟨-, -, -, h5, -⟩ := q1.ne; exact h5.2) (.int .i64 f)
                        have HR := Lib.hid (And.intro hst (And.intro hlk hk2))
                        clear q1 q2 hk2 hz hfz hf b5 hst hlk
                        go_wp2_with fail
                        go_roundw
                        case rel => exact ⟨_, true, _, rfl, rfl, by omega, by omega, HR.out.1, HR.out.2.1, by rw [show ((m : Int) - 1 + 1).toNat = m by omega]; exact HR.out.2.2⟩
                        case measure => simp [intOf]
                    · obtain rfl : i = -1 := by omega
                      have hq1 : decide ((-1 : Int) ≥ 0) = false := by decide
                      obtain ⟨q1, q2, q3⟩ := hh.out
                      have q3' : Pas (dmC g r) (pre g.es) k 0 up2 ag := q3
                      have HR := Lib.hid (And.intro q1 (And.intro q2 q3'))
                      clear q1 q2 q3 q3' hh HP0
                      go_wp2_with fail
                      go_roundg (gk - 1)
                      case rel =>
                        obtain ⟨t1, t2⟩ := HR.out.2.2.next HV.out.2.2.2
                        refine ⟨k + 1, ag, up2, rfl, by omega, HR.out.1, HR.out.2.1, t1, t2, fun h => ?_, fun h => ?_⟩
                        · have := HR.out.2.2.ag h
                          have := HOL.out.2
                          omega
                        · subst h
                          exact HR.out.2.2.fin HV.out.2.2.2 (fun v p _ _ => mem_pre HV.out.1)
                      case measure => omega
end Go.Proofs.Ytlijimdkadobmaa
