/- Contracts of in and of the reference's Without. -/
import Derived.Test.YtlijimdkadobmaaDnj
import Derived.Test.YtlijimdkadobmaaGdr
namespace Go.Gra
open Go.Dfl (nth nth_mem mem_nth nth_eq nth_ext nth_set nth_append take_snoc)
def cutK (es : List (Int × Int)) (o : Int) (k : Nat) : List (Int × Int) := (es.take k).filter fun e => decide (e.1 ≠ o) && decide (e.2 ≠ o)
theorem cutK_yes {es : List (Int × Int)} {o : Int} {k : Nat} (h : k < es.length) (h1 : (nth es k).1 ≠ o) (h2 : (nth es k).2 ≠ o) : cutK es o (k + 1) = cutK es o k ++ [nth es k] := by
  unfold cutK; rw [take_snoc _ _ h, List.filter_append, List.filter_cons_of_pos (by simp [h1, h2])]; rfl
theorem cutK_no {es : List (Int × Int)} {o : Int} {k : Nat} (h : k < es.length) (h1 : (nth es k).1 = o ∨ (nth es k).2 = o) : cutK es o (k + 1) = cutK es o k := by
  unfold cutK; rw [take_snoc _ _ h, List.filter_append, List.filter_cons_of_neg (by rcases h1 with h1 | h1 <;> simp [h1])]; simp
theorem cutK_len (es : List (Int × Int)) (o : Int) (k : Nat) : (cutK es o k).length ≤ k := Nat.le_trans (List.length_filter_le _ _) (by rw [List.length_take]; omega)
theorem cutK_all (es : List (Int × Int)) (o : Int) : cutK es o es.length = cutE o es := by unfold cutK cutE; rw [List.take_length]
def withoutL (g : G) (r : Nat) (o : Int) : List Bool := (List.range g.n.toNat).map (seenB g r o)
theorem withoutL_len (g : G) (r : Nat) (o : Int) : (withoutL g r o).length = g.n.toNat := by simp [withoutL]
theorem withoutL_nth {g : G} {r : Nat} {o : Int} {v : Nat} (h : v < g.n.toNat) : nth (withoutL g r o) v = seenB g r o v := by
  rw [nth_eq _ _ (by rw [withoutL_len]; exact h)]; simp [withoutL]
end Go.Gra
namespace Go.Proofs.Ytlijimdkadobmaa
open Go.RowKit Go.Dfl Go.Gra
set_option maxHeartbeats 1600000 in
set_option maxRecDepth 100000 in
theorem in_any (v : Value) (l : List Int) (x : Int) (W : World) (h : Ints W v l) : Calls Try.prog 12 #[v, .int .i64 x] W fun e W' => e = .returned (.bool (decide (x ∈ l))) ∧ W' = W := by
  obtain ⟨fa, fc, rfl, hfm, hfi, hfc, -⟩ := h.out1 sIntG
  have HC := Lib.hid (And.intro hfc hfi)
  clear h hfc hfi
  go_enter Try.func12, Try.ntmps12
  go_wp2_with fail
  go_loopw [5] (fun i wr => ∃ k : Nat, k ≤ l.length ∧ i = .int .i64 k ∧ wr = W ∧ Hid (∀ j, j < k → nth l j ≠ x)) (fun i _ => l.length - (intOf i).toNat)
  case atStart => exact ⟨0, by omega, rfl, rfl, fun j hj => by omega⟩
  case round =>
    obtain ⟨k, hk, rfl, rfl, hno⟩ := hrel
    by_cases hlt : k < l.length
    · have hci := HC.out.1 k hlt
      have hii := HC.out.2 .i64 (k : Int) (by omega) (by omega)
      rw [Int.toNat_natCast] at hii
      have hkl : (k : Int) < (l.length : Int) := by omega
      obtain ⟨y, hy⟩ : ∃ y, y = nth l k := ⟨_, rfl⟩
      rw [← hy] at hci
      have HY := Lib.hid hy
      clear hy
      by_cases hyx : y = x
      · subst hyx
        have HN : Hid (decide (y ∈ l) = true) := Lib.hid (by rw [decide_eq_true_eq, HY.out]; exact nth_mem _ _ hlt)
        go_wp2_with fail
        go_ret
        rw [HN.out]; exact ⟨rfl, rfl⟩
      · have q1 : (y == x) = false := by simpa using hyx
        have HN := Lib.hid hyx
        clear hyx
        go_wp2_with fail
        go_roundw
        case rel => exact ⟨k + 1, by omega, by go_num, trivial, fun j hj => by
          by_cases e : j = k
          · subst e; rw [← HY.out]; exact HN.out
          · exact hno.out j (by omega)⟩
        case measure => simp [intOf]; omega
    · obtain rfl : k = l.length := by omega
      have HN : Hid (decide (x ∈ l) = false) := Lib.hid (by
        rw [decide_eq_false_iff_not]
        intro hm
        obtain ⟨j, hj, e⟩ := mem_nth hm
        exact hno.out j hj e)
      clear hno hlt hk
      go_wp2_with fail
      go_ret
      rw [HN.out]; exact ⟨rfl, rfl⟩
def WithoutR (g : G) (r : Nat) (o : Int) (W : World) (e : Ending) (W' : World) : Prop := ∃ s c, e = .returned (.slice s g.n.toNat c) ∧ Go.Dfl.Own Value.bool W' W.heap.size 4 (.slice s g.n.toNat c) (withoutL g r o) ∧ Below W.heap.size W W'
set_option maxHeartbeats 3200000 in
set_option maxRecDepth 100000 in
theorem rWithout_any (g : G) (cv : Value) (r : Nat) (o : Int) (W : World) (h : Pairs W cv g.es) (hvg : VG g) : Calls Try.prog 29 #[GV g cv, .int .i64 (r : Int), .int .i64 o] W (WithoutR g r o W) := by
  obtain ⟨ca, cc, rfl, -, hci, hcc⟩ := pairs_rd h
  have hal := (Below.refl W.heap.size W).alloc (Nat.le_refl _) (.cells #[.int .i64 g.n, .slice ca g.es.length cc] 24)
  have H1 := Lib.hid (And.intro hcc (And.intro hal (BoxG.new W g.n (.slice ca g.es.length cc) 24)))
  obtain ⟨n, hn⟩ : ∃ n : Nat, g.n = n := ⟨g.n.toNat, by have := hvg.n0; omega⟩
  have hn8 : n ≤ 8192 := by have := hvg.n1; omega
  have hl := hvg.len
  have HV := Lib.hid (And.intro hvg hn)
  unfold GV
  rw [hn] at H1 ⊢
  clear h hal hcc hvg hn
  obtain ⟨c0, c1⟩ := H1.out.2.2
  have n1 : W.heap.size < (W.alloc (.cells #[.int .i64 (n : Int), .slice ca g.es.length cc] 24)).heap.size := H1.out.2.2.lt
  go_enter Try.func29, Try.ntmps29
  go_wp2_with fail
  generalize W.alloc (.cells #[.int .i64 (n : Int), .slice ca g.es.length cc] 24) = W1 at *
  generalize hbs : W.heap.size = bs at *
  have HBS := Lib.hid hbs
  clear hbs
  clear c0 c1
  go_loopw [7, 8] (fun lv x wr => ∃ (k : Nat) (oa : Option Addr) (oc : Nat), k ≤ g.es.length ∧ x = .int .i64 (k : Int) ∧ lv = .slice oa (cutK g.es o k).length oc ∧ Hid (OwnE elE wr W1.heap.size 53 (.slice oa (cutK g.es o k).length oc) (cutK g.es o k) ∧ Below W1.heap.size W1 wr)) (fun _ x _ => g.es.length - (intOf x).toNat)
  case atStart => exact ⟨0, none, 0, by omega, rfl, rfl, OwnE.nil _ _ _ _, Below.refl _ _⟩
  case round =>
    obtain ⟨k, oa, oc, hk, rfl, rfl, hh⟩ := hrel
    have HH := Lib.hid hh.out
    clear hh
    obtain ⟨c0, c1⟩ := H1.out.2.2.below HH.out.2
    have hcl := cutK_len g.es o k
    by_cases hlt : k < g.es.length
    · have hkl : (k : Int) < (g.es.length : Int) := by omega
      obtain ⟨p0, p1⟩ := (H1.out.1 k hlt).2 wr (H1.out.2.1.trans (HH.out.2.mono (Nat.le_of_lt n1)))
      obtain ⟨e, he⟩ : ∃ e, e = nth g.es k := ⟨_, rfl⟩
      rw [← he] at p0 p1
      have HE := Lib.hid he
      have hcik := hci (k : Int) (by omega) (by omega)
      rw [Int.toNat_natCast] at hcik
      obtain ⟨x, y⟩ := e
      dsimp only at p0 p1
      clear he
      by_cases hx : x = o
      · have q1 : (x != o) = false := by simpa using hx
        have HY := Lib.hid (cutK_no (o := o) hlt (.inl (by rw [← HE.out]; exact hx)))
        clear hx
        go_wp2_with fail
        go_roundw
        case rel => exact ⟨k + 1, oa, oc, by omega, by go_num, by rw [HY.out], by rw [HY.out]; exact HH.out⟩
        case measure => simp [intOf]; omega
      · have q1 : (x != o) = true := by simpa using hx
        by_cases hy : y = o
        · have q2 : (y != o) = false := by simpa using hy
          have HY := Lib.hid (cutK_no (o := o) hlt (.inr (by rw [← HE.out]; exact hy)))
          clear hx hy
          go_wp2_with fail
          go_roundw
          case rel => exact ⟨k + 1, oa, oc, by omega, by go_num, by rw [HY.out], by rw [HY.out]; exact HH.out⟩
          case measure => simp [intOf]; omega
        · have q2 : (y != o) = true := by simpa using hy
          have HY := Lib.hid (cutK_yes (o := o) hlt (by rw [← HE.out]; exact hx) (by rw [← HE.out]; exact hy))
          have hsz := HH.out.2.size
          have hlen1 : ((cutK g.es o k).length + 1) * 16 ≤ 140737488355328 := by omega
          have hlen2 : (cutK g.es o k).length + 1 ≤ 1000000000000 := by omega
          have hlo2 := HH.out.1.grown (grownBy_alloc wr (.cells #[.int .i64 x, .int .i64 y] 53)) (by cases (Value.slice oa (cutK g.es o k).length oc).ownBlock <;> simp)
          have HLO := Lib.hid hlo2
          clear hx hy hlo2
          go_wp2_with (at_builtin; refine wp_appendE (E := elE) sEdge rfl rfl _ _ rfl rfl wr.heap.size rfl HLO.out (x, y) (cells_new (cs := [.int .i64 x, .int .i64 y]) rfl) hlen1 hlen2 (le_alloc _ hsz) ?_; intro v' w3 hown hgr hat; obtain ⟨s9, c9, rfl⟩ := hown.shape (n := (cutK g.es o k).length + 1) (by rw [List.length_append]; rfl); have HO := Lib.hid (And.intro hown ((HH.out.2.alloc hsz _).grown hgr (by rw [World.size_alloc]; omega) (fun q e => (HH.out.1.lt q e).1))); clear hown hgr hat)
          obtain ⟨c0, c1⟩ := H1.out.2.2.below HO.out.2
          go_roundw
          case rel => exact ⟨k + 1, s9, c9, by omega, by go_num, by rw [HY.out, List.length_append]; rfl, by rw [HY.out, List.length_append, ← HE.out]; exact HO.out⟩
          case measure => simp [intOf]; omega
    · obtain rfl : k = g.es.length := by omega
      have hcut := cutK_all g.es o
      have hb2 := (Below.refl wr.heap.size wr).alloc (Nat.le_refl _) (.cells #[.int .i64 (r : Int)] 3)
      have hes : Pairs (wr.alloc (.cells #[.int .i64 (r : Int)] 3)) (.slice oa (cutK g.es o g.es.length).length oc) (cutG g o).es := by
        show Pairs _ _ (cutE o g.es)
        rw [← hcut]
        exact (own_pairs HH.out.1).below hb2
      have hrd := rDistances_any (cutG g o) _ (.slice (some ⟨wr.heap.size, 0, none⟩) 1 1) [(r : Int)] _ hes (own_one' (Value.int .i64) (w := wr) (base := wr.heap.size) (e := 3) (B := wr.heap.size) (r : Int) rfl (Nat.le_refl _)).lst (cut_ok HV.out.1 o)
      unfold GV at hrd
      rw [show (cutG g o).n = (n : Int) from HV.out.2] at hrd
      have HD := Lib.hid hrd
      have hb3 := HH.out.2.trans (hb2.mono HH.out.2.size)
      have H3 := Lib.hid hb3
      clear hcut hb2 hes hrd hb3 hlt hk hcl
      go_wp2_with fail
      refine HD.out.mono ?_
      rintro e W5 ⟨da, dc, rfl, q1, b5⟩
      rw [show (cutG g o).n = (n : Int) from HV.out.2, Int.toNat_natCast] at q1 ⊢
      have hb5 := H3.out.trans (b5.mono H3.out.size)
      obtain ⟨c0, c1⟩ := H1.out.2.2.below hb5
      have hdl := distL_len (cut_ok HV.out.1 o) [(r : Int)]
      rw [show (cutG g o).n = (n : Int) from HV.out.2, Int.toNat_natCast] at hdl
      obtain ⟨D, hD⟩ : ∃ D, D = distL (cutG g o) [(r : Int)] := ⟨_, rfl⟩
      rw [← hD] at q1 hdl
      have HQ := Lib.hid (And.intro q1 (And.intro hb5 (And.intro hdl hD)))
      clear q1 b5 hb5 hdl hD H3 HD
      go_wp2_with (at_make; refine wp_make (f := Value.bool) false sBoolG rfl _ rfl _ _ rfl .i64 .i64 _ _ n rfl rfl rfl rfl (by omega) (by unfold maxLen; omega) ?_)
      intro s cap W6 hrow hb6
      have hb16 := HQ.out.2.1.trans (hb6.mono HQ.out.2.1.size)
      have q6 := HQ.out.1.lst.below hb6
      obtain ⟨da', dc', he, hdm, hdi, hdc, hdb⟩ := q6.out1 sIntG
      rw [HQ.out.2.2.1] at he hdm hdi hdc hdb
      simp only [Value.slice.injEq] at he
      obtain ⟨rfl, -, rfl⟩ := he
      have HW := Lib.hid (And.intro hrow (And.intro hb16 (And.intro hdi (And.intro hdc (And.intro hdb HQ.out.2.1.size)))))
      clear hrow hb6 hb16 q6 hdi hdc hdb c0 c1
      go_wp2_with fail
      obtain ⟨W7, hW7⟩ : ∃ W7, W7 = W6 := ⟨_, rfl⟩
      have H0w := Lib.hid (show Go.Dfl.Own Value.bool W7 W5.heap.size 4 (.slice s n cap) (List.replicate n false) ∧ Below W1.heap.size W1 W7 ∧ ∀ p : Addr, p.block < W5.heap.size → W7.cell? p = W6.cell? p from ⟨by rw [hW7]; exact HW.out.1, by rw [hW7]; exact HW.out.2.1, fun p _ => by rw [hW7]⟩)
      rw [← hW7]
      clear hW7
      go_loopw [11] (fun x wr => ∃ (v : Nat) (l : List Bool), v ≤ n ∧ x = .int .i64 (v : Int) ∧ Hid ((Go.Dfl.Own Value.bool wr W5.heap.size 4 (.slice s n cap) l ∧ Below W1.heap.size W1 wr ∧ ∀ p : Addr, p.block < W5.heap.size → wr.cell? p = W6.cell? p) ∧ l.length = n ∧ ∀ j, j < v → nth l j = seenB g r o j)) (fun x _ => n - (intOf x).toNat)
      case atStart => exact ⟨0, _, by omega, rfl, H0w.out, by simp, fun j hj => by omega⟩
      case round =>
        obtain ⟨v, l, hv, rfl, hh⟩ := hrel
        have HK := Lib.hid hh.out
        clear hh
        obtain ⟨c0, c1⟩ := H1.out.2.2.below HK.out.1.2.1
        by_cases hlt : v < n
        · have hvl : (v : Int) < (n : Int) := by omega
          obtain ⟨z, hz⟩ : ∃ z, z = nth D v := ⟨_, rfl⟩
          have r1 : wr.cell? ⟨blk da, ofs da + v, none⟩ = some (.int .i64 z) := by
            have h9 := HQ.out.1.lst.out1 sIntG
            obtain ⟨da', dc', he, -, -, h10, h11⟩ := h9
            rw [HQ.out.2.2.1] at he h10 h11
            simp only [Value.slice.injEq] at he
            obtain ⟨rfl, -, rfl⟩ := he
            rw [HK.out.1.2.2 ⟨blk da, ofs da + v, none⟩ (h11 v hlt), HW.out.2.2.2.1 v hlt, ← hz]
          have i1 := HW.out.2.2.1 .i64 (v : Int) (by omega) (by omega)
          rw [Int.toNat_natCast] at i1
          obtain ⟨r2, i2, f2⟩ := own_bool HK.out.1.1 HK.out.2.1 hlt
          obtain ⟨b, hb⟩ : ∃ b, b = seenB g r o v := ⟨_, rfl⟩
          have hsn : b = (decide (0 ≤ z) && decide ((v : Int) ≠ o)) := by rw [hb, hz, HQ.out.2.2.2]; rfl
          have hset : ∀ c : Bool, c = b → (Go.Dfl.Own Value.bool (wr.setCell ⟨blk s, ofs s + v, none⟩ (.bool c)) W5.heap.size 4 (.slice s n cap) (l.set v c) ∧ Below W1.heap.size W1 (wr.setCell ⟨blk s, ofs s + v, none⟩ (.bool c)) ∧ ∀ p : Addr, p.block < W5.heap.size → (wr.setCell ⟨blk s, ofs s + v, none⟩ (.bool c)).cell? p = W6.cell? p) ∧ (l.set v c).length = n ∧ ∀ j, j < v + 1 → nth (l.set v c) j = seenB g r o j := fun c hc => by
            have hob : (Value.slice s n cap).ownBlock = some (blk s) := by
              obtain ⟨-, ⟨h2, h3⟩ | ⟨q, cap2, cur, hv, -⟩⟩ := HK.out.1.1
              · rw [HK.out.2.1] at h3; omega
              · simp only [Value.slice.injEq] at hv
                obtain ⟨rfl, -, -⟩ := hv; rfl
            have hge := (HK.out.1.1.lt _ hob).1
            refine ⟨⟨HK.out.1.1.set v c, HK.out.1.2.1.setCell (p := ⟨blk s, ofs s + v, none⟩) (Nat.le_trans HW.out.2.2.2.2.2 hge) _, fun p hp => ?_⟩, by rw [List.length_set]; exact HK.out.2.1, fun j hj => ?_⟩
            · rw [World.cell?_setCell_other _ _ _ _ (fun e => by rw [← e] at hp; dsimp only at hp; omega)]
              exact HK.out.1.2.2 p hp
            · rw [nth_set]
              by_cases e : v = j
              · subst e; rw [if_pos ⟨rfl, by rw [HK.out.2.1]; exact hlt⟩, hc, hb]
              · rw [if_neg (fun h => e h.1)]; exact HK.out.2.2 j (by omega)
          have HSET := Lib.hid hset
          clear hset hb hz
          by_cases hz0 : 0 ≤ z
          · have q1 : decide (z ≥ 0) = true := decide_eq_true hz0
            by_cases hvo : (v : Int) = o
            · have q2 : ((v : Int) != o) = false := by simpa using hvo
              have HB : Hid (false = b) := Lib.hid (by rw [hsn, decide_eq_true hz0, decide_eq_false (by simpa using hvo)]; rfl)
              clear hsn hz0 hvo
              go_wp2_with fail
              go_roundw
              case rel => exact ⟨v + 1, _, by omega, by go_num, HSET.out _ HB.out⟩
              case measure => simp [intOf]; omega
            · have q2 : ((v : Int) != o) = true := by simpa using hvo
              have HB : Hid (true = b) := Lib.hid (by rw [hsn, decide_eq_true hz0, decide_eq_true (by simpa using hvo)]; rfl)
              clear hsn hz0 hvo
              go_wp2_with fail
              go_roundw
              case rel => exact ⟨v + 1, _, by omega, by go_num, HSET.out _ HB.out⟩
              case measure => simp [intOf]; omega
          · have q1 : decide (z ≥ 0) = false := decide_eq_false hz0
            have HB : Hid (false = b) := Lib.hid (by rw [hsn, decide_eq_false hz0]; rfl)
            clear hsn hz0
            go_wp2_with fail
            go_roundw
            case rel => exact ⟨v + 1, _, by omega, by go_num, HSET.out _ HB.out⟩
            case measure => simp [intOf]; omega
        · obtain rfl : n = v := by omega
          have hfull : l = withoutL g r o := nth_ext (by rw [withoutL_len, HK.out.2.1, HV.out.2, Int.toNat_natCast]) fun i hi => by
            rw [HK.out.2.1] at hi
            rw [withoutL_nth (by rw [HV.out.2, Int.toNat_natCast]; exact hi)]; exact HK.out.2.2 i hi
          have HF := Lib.hid hfull
          clear hfull
          go_wp2_with fail
          go_ret
          refine ⟨s, cap, by rw [HV.out.2]; rfl, ?_, by rw [HBS.out]; exact H1.out.2.1.trans (HK.out.1.2.1.mono (Nat.le_of_lt n1))⟩
          rw [HV.out.2, Int.toNat_natCast, ← HF.out, HBS.out]
          exact HK.out.1.1.mono (Nat.le_trans (Nat.le_of_lt n1) HW.out.2.2.2.2.2)
end Go.Proofs.Ytlijimdkadobmaa
