/- PartitionClasses: for any list of numbers, Classes returns each member once, each class ascending and below the next one by its least member, which Find returns. Conditions: none. -/
import Derived.Test.YtmgeadhiohlblaaPartI
namespace Go.Proofs.Ytmgeadhiohlblaa
open Go.ChangeShapes Go.WideShapes Go.ChangeAt Go.RowKit Go.Deep Go.Dfl

/-! ### Plain facts -/
theorem range_asc (n : Nat) : (List.range n).Pairwise (· < ·) := List.pairwise_lt_range
theorem hds_lt {p : List Int} {k i j : Nat} (hij : i < j) (hj : j < (hdsTo p k).length) : nth (hdsTo p k) i < nth (hdsTo p k) j := by
  have h : (hdsTo p k).Pairwise (· < ·) := (range_asc k).filter _
  rw [nth_eq _ _ (by omega), nth_eq _ _ hj]
  exact List.pairwise_iff_getElem.1 h i j (by omega) hj hij
theorem mem_asc {p : List Int} {k h i j : Nat} (hij : i < j) (hj : j < (memTo p k h).length) : nth (memTo p k h) i < nth (memTo p k h) j := by
  have h1 : ((List.range k).filter fun j => decide (nth p j = (h : Int))).Pairwise (· < ·) := (range_asc k).filter _
  have h2 : (memTo p k h).Pairwise (· < ·) := by
    unfold memTo
    rw [List.pairwise_map]
    exact h1.imp fun hab => by omega
  rw [nth_eq _ _ (by omega), nth_eq _ _ hj]
  exact List.pairwise_iff_getElem.1 h2 i j (by omega) hj hij

structure Good (p : List Int) : Prop where
  lo : ∀ j, j < p.length → 0 ≤ nth p j
  hi : ∀ j, j < p.length → nth p j ≤ j
  fix : ∀ j, j < p.length → nth p (nth p j).toNat = nth p j

/-- The class of a member. -/
def cix (p : List Int) (x : Nat) : Nat := idxOf p (nth p x).toNat
def hd (p : List Int) (i : Nat) : Nat := nth (hdsTo p p.length) i

theorem hd_mem {p : List Int} {i : Nat} (hi : i < (hdsTo p p.length).length) : hd p i < p.length ∧ nth p (hd p i) = hd p i := mem_hdsTo.1 (nth_mem _ _ hi)
theorem cls_nth {p : List Int} {i : Nat} (hi : i < (hdsTo p p.length).length) : nth (clsTo p p.length) i = memTo p p.length (hd p i) := by
  unfold clsTo; rw [nth_map' _ _ _ hi]; rfl
theorem mem0 {p : List Int} (g : Good p) {h : Nat} (hh : h < p.length) (e : nth p h = h) : 0 < (memTo p p.length h).length ∧ nth (memTo p p.length h) 0 = h := by
  have hm : (h : Int) ∈ memTo p p.length h := mem_memTo.2 ⟨h, rfl, hh, e⟩
  obtain ⟨j, hj, hj2⟩ := mem_nth hm
  refine ⟨by omega, ?_⟩
  obtain ⟨x, hx, hx2, hx3⟩ := mem_memTo.1 (nth_mem (memTo p p.length h) 0 (by omega))
  have h1 := g.hi x hx2
  rw [hx3] at h1
  by_cases e0 : j = 0
  · rw [← e0]; exact hj2
  · have := mem_asc (p := p) (k := p.length) (h := h) (i := 0) (j := j) (by omega) hj
    omega
theorem cix_lt {p : List Int} (g : Good p) {x : Nat} (hx : x < p.length) : cix p x < (hdsTo p p.length).length ∧ (hd p (cix p x) : Int) = nth p x := by
  have h1 := g.lo x hx
  have h2 := g.hi x hx
  obtain ⟨a, b⟩ := hdsTo_at (p := p) (h := (nth p x).toNat) (by rw [g.fix x hx]; omega) p.length (by omega)
  refine ⟨a, ?_⟩
  unfold hd cix; rw [b]; omega
theorem cix_hd {p : List Int} (g : Good p) {i x : Nat} (hi : i < (hdsTo p p.length).length) (hx : x < p.length) (e : nth p x = hd p i) : cix p x = i := by
  obtain ⟨h1, h2⟩ := cix_lt g hx
  refine nth_inj (hdsTo_nodup p p.length) h1 hi ?_
  unfold hd at h2 e; omega

/-- What has been seen. -/
structure SeenInv (p : List Int) (i k : Nat) (s : List Bool) (n : Nat) : Prop where
  len : s.length = p.length
  cnt : n = (s.filter id).length
  lo : ∀ x, x < p.length → cix p x < i → nth s x = true
  at_ : ∀ x, x < p.length → cix p x = i → (nth s x = true ↔ (x : Int) ∈ (nth (clsTo p p.length) i).take k)
  hi : ∀ x, x < p.length → i < cix p x → nth s x = false

theorem cnt_set : ∀ (s : List Bool) (x : Nat), x < s.length → nth s x = false → ((s.set x true).filter id).length = (s.filter id).length + 1
  | [], x, h, _ => by simp at h
  | b :: s, 0, _, h => by
    have : b = false := by simpa [nth] using h
    subst this; simp
  | b :: s, x + 1, hx, h => by
    have := cnt_set s x (by simpa using hx) (by simpa [nth] using h)
    cases b <;> simp [List.set] at * <;> omega
theorem cnt_all : ∀ (s : List Bool), (∀ x, x < s.length → nth s x = true) → (s.filter id).length = s.length
  | [], _ => rfl
  | b :: s, h => by
    have h0 := h 0 (by simp)
    have : b = true := by simpa [nth] using h0
    subst this
    have := cnt_all s fun x hx => by have := h (x + 1) (by simpa using hx); simpa [nth] using this
    simp at this ⊢; omega

theorem SeenInv.start (p : List Int) : SeenInv p 0 0 (List.replicate p.length false) 0 := by
  have hn : ∀ x, x < p.length → nth (List.replicate p.length false) x = false := fun x hx => by simp [nth, hx]
  refine ⟨by simp, by simp, fun x hx h => by omega, fun x hx h => by simp [hn x hx], fun x hx h => hn x hx⟩
theorem SeenInv.next {p : List Int} {i : Nat} {s : List Bool} {n : Nat} (g : Good p) (hi : i < (hdsTo p p.length).length) (h : SeenInv p i (nth (clsTo p p.length) i).length s n) : SeenInv p (i + 1) 0 s n := by
  refine ⟨h.len, h.cnt, fun x hx hc => ?_, fun x hx hc => ?_, fun x hx hc => h.hi x hx (by omega)⟩
  · by_cases e : cix p x < i
    · exact h.lo x hx e
    · have e2 : cix p x = i := by omega
      rw [h.at_ x hx e2, List.take_length, cls_nth hi, mem_memTo]
      have := (cix_lt g hx).2
      rw [e2] at this
      exact ⟨x, rfl, hx, this.symm⟩
  · rw [h.hi x hx (by omega)]; simp

theorem SeenInv.step {p : List Int} {i k : Nat} {s : List Bool} {n : Nat} (g : Good p) (hi : i < (hdsTo p p.length).length) (hk : k < (nth (clsTo p p.length) i).length) (h : SeenInv p i k s n) :
    ∃ x : Nat, nth (nth (clsTo p p.length) i) k = x ∧ x < p.length ∧ nth p x = hd p i ∧ nth s x = false ∧ (0 < k → nth (nth (clsTo p p.length) i) (k - 1) < x) ∧ SeenInv p i (k + 1) (s.set x true) (n + 1) := by
  obtain ⟨x, hx, hx2, hx3⟩ := mem_memTo.1 (by rw [← cls_nth hi]; exact nth_mem _ k hk)
  have hc := cix_hd g hi hx2 hx3
  have hL := cls_nth (p := p) hi
  have hfalse : nth s x = false := by
    rw [← Bool.not_eq_true, h.at_ x hx2 hc]
    intro hm
    obtain ⟨j, hj, hj2⟩ := mem_nth hm
    simp at hj
    have e : nth ((nth (clsTo p p.length) i).take k) j = nth (nth (clsTo p p.length) i) j := by simp [nth, List.getElem?_take, show j < k by omega]
    rw [e, ← hx, hL] at hj2
    have := mem_asc (p := p) (k := p.length) (h := hd p i) (i := j) (j := k) (by omega) (by rw [← hL]; exact hk)
    omega
  refine ⟨x, hx, hx2, hx3, hfalse, fun h0 => ?_, ⟨by simp [h.len], ?_, fun y hy hcy => ?_, fun y hy hcy => ?_, fun y hy hcy => ?_⟩⟩
  · rw [← hx, hL]; exact mem_asc (by omega) (by rw [← hL]; exact hk)
  · rw [cnt_set _ _ (by rw [h.len]; exact hx2) hfalse, ← h.cnt]
  · rw [nth_set]; split
    · rfl
    · exact h.lo y hy hcy
  · rw [nth_set, take_snoc _ _ hk, hx, List.mem_append]
    by_cases e : x = y
    · subst e; rw [if_pos ⟨rfl, by rw [h.len]; exact hx2⟩]; simp
    · rw [if_neg (by omega), h.at_ y hy hcy]
      have : ¬ (y : Int) ∈ [(x : Int)] := by simp; omega
      simp [this]
  · rw [nth_set, if_neg (by rintro ⟨rfl, -⟩; omega)]; exact h.hi y hy hcy
theorem SeenInv.fin {p : List Int} {s : List Bool} {n : Nat} (g : Good p) (h : SeenInv p (hdsTo p p.length).length 0 s n) : n = p.length := by
  rw [h.cnt, ← h.len]
  exact cnt_all s fun x hx => h.lo x (by rw [← h.len]; exact hx) (cix_lt g (by rw [← h.len]; exact hx)).1


theorem sBools : SliceOf Try.prog 44 4 (.bool false) 1 1 := ⟨Try.underlying44, info_parts (P := Try.prog) (e := 4) (by kernel_rfl)⟩


theorem Find_ok {v : Value} {p : List Int} {x : Nat} {h : Nat} {w : World} (hI : Ints w v p) (hc : chk p = 0) (hx : x < p.length) (hp : nth p x = h) :
    Calls Try.prog 23 #[v, .int .i64 (x : Int)] w fun e w' => e = .returned (.tuple #[.int .i64 (h : Int), .int .i64 0]) ∧ Qt w w' := by
  have hm : memB p.length (x : Int) = true := memB_iff.2 (by omega)
  have h1 : findV p x = h := by rw [findV, if_pos ⟨hc, hm⟩, Int.toNat_natCast, hp]
  have h2 : findE p x = 0 := by rw [findE, if_pos hc, if_pos hm]
  have := Find_any v p (x : Int) w hI
  rwa [h1, h2] at this


set_option maxHeartbeats 6400000 in
set_option maxRecDepth 100000 in
theorem PartitionClasses_walk (v : Value) (p : List Int) (w : World) (hA : Ints w v p) (_hb : ∀ x ∈ p, -9223372036854775808 ≤ x ∧ x ≤ 9223372036854775807) :
    Calls Try.prog 9 #[v] w (TruePost w) := by
  obtain ⟨pa, ca, rfl, hm, -⟩ := hA.out1 sInt
  have H0 := Lib.hid hA
  clear hA _hb
  by_cases hl1 : 300 < p.length
  · go_enter Try.func9, Try.ntmps9
    go_wp2_with fail
    refine (awake_any _).mono ?_; rintro e w5 ⟨rfl, b5⟩
    go_wp2_with fail
    go_ret
    exact ⟨rfl, b5⟩
  have hd1 : decide (300 < p.length) = false := by simpa using hl1
  have h0 : Below w.heap.size w w := Below.refl _ _
  by_cases hc0 : chk p = 0
  · have hc0' : (chk p != 0) = false := by simpa using hc0
    have g : Good p := ⟨fun j hj => ((chk_ok hc0).2 j hj).1, fun j hj => ((chk_ok hc0).2 j hj).2.1, fun j hj => ((chk_ok hc0).2 j hj).2.2⟩
    have HG := Lib.hid (And.intro hc0 g)
    clear hc0 g
    go_enter Try.func9, Try.ntmps9
    go_wp2_with fail
    refine (Classes_any _ p _ (H0.out.below h0)).mono ?_
    rintro e W1 (⟨hbad, -⟩ | ⟨-, v1, vs, rfl, hgr, q1⟩)
    · exact absurd HG.out.1 hbad
    have h1 : Below w.heap.size w W1 := h0.trans q1
    have hcl := clsTo_len p p.length
    have hcl2 := hdsTo_le p p.length
    obtain ⟨s1, c1, he1, hm1, hidx1, hcell1, hblk1⟩ := hgr.1.out1 sRows
    subst he1
    have hvl := hgr.2.1
    rw [hvl] at hidx1 hcell1 hblk1 hm1
    rw [hvl] at hgr ⊢
    go_wp2_with fail
    refine (RCheck_any _ p _ (H0.out.below h1)).mono ?_; rintro e W2 ⟨rfl, q2⟩
    have h2 : Below w.heap.size w W2 := h1.trans (q2.below _)
    go_wp2_with (at_make; refine wp_make (false : Bool) sBools rfl _ rfl _ _ rfl .i64 .i64 _ _ p.length rfl rfl rfl rfl ?c1 ?c2 ?_)
    case c1 => omega
    case c2 => unfold maxLen; omega
    intro s2 cap2 W3 hown hb3
    go_wp2_with fail
    have h3 : Below w.heap.size w W3 := h2.trans (hb3.mono h2.size)
    have hg3 : Grid (Value.int .i64) W2 (.slice s1 (clsTo p p.length).length c1) vs (clsTo p p.length) := hgr.qt q2
    have hc3 : ∀ j, j < (clsTo p p.length).length → W2.cell? ⟨blk s1, ofs s1 + j, none⟩ = some (nth vs j) := fun j hj => by
      rw [(q2.below W1.heap.size).cell (p := ⟨blk s1, ofs s1 + j, none⟩) (hblk1 j hj)]; exact hcell1 j hj
    have hbk : ∀ j, j < (clsTo p p.length).length → blk s1 < W2.heap.size := fun j hj => Nat.lt_of_lt_of_le (hblk1 j hj) (q2.below W1.heap.size).size
    rw [hcl] at hidx1 hc3 hbk
    have HR := Lib.hid (And.intro hc3 (And.intro hbk (And.intro hg3.2.2 hcl)))
    have HB := Lib.hid (And.intro h2 (SeenInv.start p))
    have HO := Lib.hid (And.intro hown hb3)
    clear hgr hcell1 hblk1 hc3 hbk hg3 hvl q1 q2 hown hb3 h3 h2 h1 h0 hm1 hcl
    generalize hmm : (hdsTo p p.length).length = m at *
    go_loopw [6, 7, 8, 9, 10, 11] (fun cn ci _ _ _ _ wr => ∃ (i n : Nat) (s : List Bool), i ≤ m ∧ n ≤ p.length ∧ cn = .int .i64 n ∧ ci = .int .i64 i ∧ Hid (SeenInv p i 0 s n ∧ Own Value.bool wr W2.heap.size 4 (.slice s2 p.length cap2) s ∧ Below W2.heap.size W2 wr)) (fun _ ci _ _ _ _ _ => m - (intOf ci).toNat)
    case atStart => exact ⟨0, 0, _, by omega, by omega, rfl, rfl, HB.out.2, HO.out.1, HO.out.2⟩
    case round =>
      clear HO
      obtain ⟨i, n, s, hi, hn, rfl, rfl, hh⟩ := hrel
      by_cases hlt : i < m
      · have hib : i < (clsTo p p.length).length := by rw [HR.out.2.2.2]; exact hlt
        have hcw : wr.cell? ⟨blk s1, ofs s1 + i, none⟩ = some (nth vs i) := by
          rw [hh.out.2.2.cell (p := ⟨blk s1, ofs s1 + i, none⟩) (HR.out.2.1 i hlt)]; exact HR.out.1 i hlt
        obtain ⟨ai, cpi, hvi, hmi, hidi, hceli, hblki⟩ := (HR.out.2.2.1 i hib).out1 sInt
        rw [hvi] at hcw
        have hmem := mem0 HG.out.2 (hd_mem (p := p) (i := i) (by omega)).1 (hd_mem (p := p) (i := i) (by omega)).2
        rw [← cls_nth (by omega)] at hmem
        have hL9 : (nth (clsTo p p.length) i).length ≤ p.length := by rw [cls_nth (by omega)]; exact memTo_le _ _ _
        have HE := Lib.hid (And.intro hmem (And.intro hceli (And.intro hblki hvi)))
        clear hceli hblki hvi
        have hLp := hmem.1
        have c0 : wr.cell? ⟨blk ai, ofs ai, none⟩ = some (.int .i64 (nth (nth (clsTo p p.length) i) 0)) := by
          rw [hh.out.2.2.cell (p := ⟨blk ai, ofs ai, none⟩) (HE.out.2.2.1 0 hLp)]; exact HE.out.2.1 0 hLp
        have hl0 : ((((nth (clsTo p p.length) i).length : Nat) : Int) == 0) = false := by rw [beq_eq_false_iff_ne]; omega
        clear hmem
        by_cases hi0 : 0 < i
        · have hd0 : decide ((0 : Int) < (i : Int)) = true := by simpa using hi0
          have hib' : i - 1 < (clsTo p p.length).length := by omega
          obtain ⟨aj, cpj, hvj, hmj, hidj, hcelj, hblkj⟩ := (HR.out.2.2.1 (i - 1) hib').out1 sInt
          have hcw' : wr.cell? ⟨blk s1, ofs s1 + (i - 1), none⟩ = some (.slice aj (nth (clsTo p p.length) (i - 1)).length cpj) := by
            rw [hh.out.2.2.cell (p := ⟨blk s1, ofs s1 + (i - 1), none⟩) (HR.out.2.1 (i - 1) (by omega)), HR.out.1 (i - 1) (by omega), hvj]
          have hmem' := mem0 HG.out.2 (hd_mem (p := p) (i := i - 1) (by omega)).1 (hd_mem (p := p) (i := i - 1) (by omega)).2
          rw [← cls_nth (by omega)] at hmem'
          have hLp' := hmem'.1
          have c0' : wr.cell? ⟨blk aj, ofs aj, none⟩ = some (.int .i64 (nth (nth (clsTo p p.length) (i - 1)) 0)) := by
            rw [hh.out.2.2.cell (p := ⟨blk aj, ofs aj, none⟩) (hblkj 0 hLp')]; exact hcelj 0 hLp'
          have hord : decide (nth (nth (clsTo p p.length) i) 0 ≤ nth (nth (clsTo p p.length) (i - 1)) 0) = false := by
            rw [HE.out.1.2, hmem'.2]
            have := hds_lt (p := p) (k := p.length) (i := i - 1) (j := i) (by omega) (by omega)
            unfold hd; simp; omega
          have iw : IntKind.i64.wrap ((i : Int) - 1) = (i : Int) - 1 := IntWalk.i64_in _ (by omega)
          have i1 := hidx1 .i64 ((i : Int) - 1) (by omega) (by omega)
          rw [show ((i : Int) - 1).toNat = i - 1 by omega] at i1
          clear hmem' hcelj hblkj hvj
          go_wp2_with fail
          go_quiet (fail)
          go_wp2_with fail
          clear hcw' c0' hord iw i1 hidj hmj hLp' hib'
          refine wp_gen (fun W => Own Value.bool W W2.heap.size 4 (.slice s2 p.length cap2) s ∧ Below W2.heap.size W2 W) ⟨hh.out.2.1.qt (by first | exact Qt.refl _ | exact Qt.drewN _ _ | exact (Qt.drewN _ _).trans (Qt.drewN _ _) | exact ((Qt.drewN _ _).trans (Qt.drewN _ _)).trans (Qt.drewN _ _) | exact Qt.drew _ | exact (Qt.drewN _ _).trans (Qt.drew _)), below_drewN hh.out.2.2 _⟩ ?_
          intro Wi hWi
          have HI := Lib.hid (And.intro hh.out.1 hWi)
          clear hWi hh hcw c0 hl0 hd0 hi0
          go_loopw [6, 8, 9, 10, 11] (fun cn ck _ _ _ W => ∃ (k n : Nat) (s : List Bool), k ≤ (nth (clsTo p p.length) i).length ∧ n ≤ p.length ∧ cn = .int .i64 n ∧ ck = .int .i64 k ∧ Hid (SeenInv p i k s n ∧ Own Value.bool W W2.heap.size 4 (.slice s2 p.length cap2) s ∧ Below W2.heap.size W2 W)) (fun _ ck _ _ _ _ => (nth (clsTo p p.length) i).length - (intOf ck).toNat)
          case atStart => exact ⟨0, n, s, by omega, hn, rfl, rfl, HI.out.1, HI.out.2.1, HI.out.2.2⟩
          case round =>
            clear HI hn
            obtain ⟨k, n, s, hk, hn, rfl, rfl, hh⟩ := hrel
            have hcw : wr.cell? ⟨blk s1, ofs s1 + i, none⟩ = some (.slice ai (nth (clsTo p p.length) i).length cpi) := by
              rw [hh.out.2.2.cell (p := ⟨blk s1, ofs s1 + i, none⟩) (HR.out.2.1 i hlt), HR.out.1 i hlt, HE.out.2.2.2]
            by_cases hkl : k < (nth (clsTo p p.length) i).length
            · obtain ⟨x, hx1, hx2, hx3, hx4, hx5, hx6⟩ := hh.out.1.step HG.out.2 (by omega) hkl
              have ck : wr.cell? ⟨blk ai, ofs ai + k, none⟩ = some (.int .i64 (x : Int)) := by
                rw [hh.out.2.2.cell (p := ⟨blk ai, ofs ai + k, none⟩) (HE.out.2.2.1 k hkl), ← hx1]; exact HE.out.2.1 k hkl
              have hsl := hh.out.1.len
              obtain ⟨a5, c5, he5, hm5, hidx5, hcell5, -⟩ := hh.out.2.1.lst.out1 sBools
              simp at he5
              obtain ⟨rfl, he5, rfl⟩ := he5
              rw [hsl] at hidx5 hcell5
              have cs := hcell5 x hx2
              rw [hx4] at cs
              have fs := hh.out.2.1.frozen (by omega) (ofs s2 + x)
              have hbg := hh.out.2.1.blkge (by omega)
              have hset := hh.out.2.1.set x true
              have hbs := hh.out.2.2.setCell (p := ⟨blk s2, ofs s2 + x, none⟩) hbg.1 (.bool true)
              have hn1 : n + 1 ≤ p.length := by
                have := hx6.cnt
                have h9 := List.length_filter_le id (s.set x true)
                simp at h9; omega
              have HQ := Lib.hid (And.intro hx6 (And.intro hset (And.intro hbs (HB.out.1.trans (hbs.mono HB.out.1.size)))))
              have HS := Lib.hid (And.intro hx2 hx3)
              by_cases hk0 : 0 < k
              · have hdk : decide ((0 : Int) < (k : Int)) = true := by simpa using hk0
                have ck' : wr.cell? ⟨blk ai, ofs ai + (k - 1), none⟩ = some (.int .i64 (nth (nth (clsTo p p.length) i) (k - 1))) := by
                  rw [hh.out.2.2.cell (p := ⟨blk ai, ofs ai + (k - 1), none⟩) (HE.out.2.2.1 (k - 1) (by omega))]; exact HE.out.2.1 (k - 1) (by omega)
                have ik1 := hidi .i64 ((k : Int) - 1) (by omega) (by omega)
                rw [show ((k : Int) - 1).toNat = k - 1 by omega] at ik1
                have hlk := hx5 hk0
                have hlk' : decide ((x : Int) ≤ nth (nth (clsTo p p.length) i) (k - 1)) = false := by simpa using hlk
                clear hx1 hx3 hx4 hx5 hx6 hsl hcell5 hm5 he5 hset hbs hh
                go_wp2_with fail
                refine (Find_ok (H0.out.below HQ.out.2.2.2) HG.out.1 HS.out.1 HS.out.2).mono ?_; rintro e W7 ⟨rfl, q7⟩
                have HQ7 := Lib.hid (And.intro (HQ.out.2.1.qt q7) (HQ.out.2.2.1.trans (q7.below _)))
                have c7 : W7.cell? ⟨blk s1, ofs s1 + i, none⟩ = some (.slice ai (nth (clsTo p p.length) i).length cpi) := by rw [HQ7.out.2.cell (p := ⟨blk s1, ofs s1 + i, none⟩) (HR.out.2.1 i hlt), HR.out.1 i hlt, HE.out.2.2.2]
                have c8 : W7.cell? ⟨blk ai, ofs ai, none⟩ = some (.int .i64 (hd p i : Int)) := by
                  rw [HQ7.out.2.cell (p := ⟨blk ai, ofs ai, none⟩) (HE.out.2.2.1 0 hLp), ← HE.out.1.2]; exact HE.out.2.1 0 hLp
                clear q7
                go_wp2_with fail
                go_roundw
                case rel => exact ⟨k + 1, n + 1, _, by omega, by omega, by go_num, by go_num, HQ.out.1, HQ7.out.1, HQ7.out.2⟩
                case measure => simp [intOf]; omega
              · have hdk : decide ((0 : Int) < (k : Int)) = false := by simpa using hk0
                clear hx1 hx3 hx4 hx5 hx6 hsl hcell5 hm5 he5 hset hbs hh
                go_wp2_with fail
                refine (Find_ok (H0.out.below HQ.out.2.2.2) HG.out.1 HS.out.1 HS.out.2).mono ?_; rintro e W7 ⟨rfl, q7⟩
                have HQ7 := Lib.hid (And.intro (HQ.out.2.1.qt q7) (HQ.out.2.2.1.trans (q7.below _)))
                have c7 : W7.cell? ⟨blk s1, ofs s1 + i, none⟩ = some (.slice ai (nth (clsTo p p.length) i).length cpi) := by rw [HQ7.out.2.cell (p := ⟨blk s1, ofs s1 + i, none⟩) (HR.out.2.1 i hlt), HR.out.1 i hlt, HE.out.2.2.2]
                have c8 : W7.cell? ⟨blk ai, ofs ai, none⟩ = some (.int .i64 (hd p i : Int)) := by
                  rw [HQ7.out.2.cell (p := ⟨blk ai, ofs ai, none⟩) (HE.out.2.2.1 0 hLp), ← HE.out.1.2]; exact HE.out.2.1 0 hLp
                clear q7
                go_wp2_with fail
                go_roundw
                case rel => exact ⟨k + 1, n + 1, _, by omega, by omega, by go_num, by go_num, HQ.out.1, HQ7.out.1, HQ7.out.2⟩
                case measure => simp [intOf]; omega
            · obtain rfl : k = (nth (clsTo p p.length) i).length := by omega
              have HN := Lib.hid (And.intro (hh.out.1.next HG.out.2 (by omega)) hh.out.2)
              clear hh
              go_wp2_with fail
              go_roundw
              case rel => exact ⟨i + 1, n, s, by omega, hn, rfl, by go_num, HN.out.1, HN.out.2.1, HN.out.2.2⟩
              case measure => simp [intOf]; omega
        · have hd0 : decide ((0 : Int) < (i : Int)) = false := by simpa using hi0
          go_wp2_with fail
          go_quiet (fail)
          go_wp2_with fail
          refine wp_gen (fun W => Own Value.bool W W2.heap.size 4 (.slice s2 p.length cap2) s ∧ Below W2.heap.size W2 W) ⟨hh.out.2.1.qt (by first | exact Qt.refl _ | exact Qt.drewN _ _ | exact (Qt.drewN _ _).trans (Qt.drewN _ _) | exact ((Qt.drewN _ _).trans (Qt.drewN _ _)).trans (Qt.drewN _ _) | exact Qt.drew _ | exact (Qt.drewN _ _).trans (Qt.drew _)), below_drewN hh.out.2.2 _⟩ ?_
          intro Wi hWi
          have HI := Lib.hid (And.intro hh.out.1 hWi)
          clear hWi hh hcw c0 hl0 hd0 hi0
          go_loopw [6, 8, 9, 10, 11] (fun cn ck _ _ _ W => ∃ (k n : Nat) (s : List Bool), k ≤ (nth (clsTo p p.length) i).length ∧ n ≤ p.length ∧ cn = .int .i64 n ∧ ck = .int .i64 k ∧ Hid (SeenInv p i k s n ∧ Own Value.bool W W2.heap.size 4 (.slice s2 p.length cap2) s ∧ Below W2.heap.size W2 W)) (fun _ ck _ _ _ _ => (nth (clsTo p p.length) i).length - (intOf ck).toNat)
          case atStart => exact ⟨0, n, s, by omega, hn, rfl, rfl, HI.out.1, HI.out.2.1, HI.out.2.2⟩
          case round =>
            clear HI hn
            obtain ⟨k, n, s, hk, hn, rfl, rfl, hh⟩ := hrel
            have hcw : wr.cell? ⟨blk s1, ofs s1 + i, none⟩ = some (.slice ai (nth (clsTo p p.length) i).length cpi) := by
              rw [hh.out.2.2.cell (p := ⟨blk s1, ofs s1 + i, none⟩) (HR.out.2.1 i hlt), HR.out.1 i hlt, HE.out.2.2.2]
            by_cases hkl : k < (nth (clsTo p p.length) i).length
            · obtain ⟨x, hx1, hx2, hx3, hx4, hx5, hx6⟩ := hh.out.1.step HG.out.2 (by omega) hkl
              have ck : wr.cell? ⟨blk ai, ofs ai + k, none⟩ = some (.int .i64 (x : Int)) := by
                rw [hh.out.2.2.cell (p := ⟨blk ai, ofs ai + k, none⟩) (HE.out.2.2.1 k hkl), ← hx1]; exact HE.out.2.1 k hkl
              have hsl := hh.out.1.len
              obtain ⟨a5, c5, he5, hm5, hidx5, hcell5, -⟩ := hh.out.2.1.lst.out1 sBools
              simp at he5
              obtain ⟨rfl, he5, rfl⟩ := he5
              rw [hsl] at hidx5 hcell5
              have cs := hcell5 x hx2
              rw [hx4] at cs
              have fs := hh.out.2.1.frozen (by omega) (ofs s2 + x)
              have hbg := hh.out.2.1.blkge (by omega)
              have hset := hh.out.2.1.set x true
              have hbs := hh.out.2.2.setCell (p := ⟨blk s2, ofs s2 + x, none⟩) hbg.1 (.bool true)
              have hn1 : n + 1 ≤ p.length := by
                have := hx6.cnt
                have h9 := List.length_filter_le id (s.set x true)
                simp at h9; omega
              have HQ := Lib.hid (And.intro hx6 (And.intro hset (And.intro hbs (HB.out.1.trans (hbs.mono HB.out.1.size)))))
              have HS := Lib.hid (And.intro hx2 hx3)
              by_cases hk0 : 0 < k
              · have hdk : decide ((0 : Int) < (k : Int)) = true := by simpa using hk0
                have ck' : wr.cell? ⟨blk ai, ofs ai + (k - 1), none⟩ = some (.int .i64 (nth (nth (clsTo p p.length) i) (k - 1))) := by
                  rw [hh.out.2.2.cell (p := ⟨blk ai, ofs ai + (k - 1), none⟩) (HE.out.2.2.1 (k - 1) (by omega))]; exact HE.out.2.1 (k - 1) (by omega)
                have ik1 := hidi .i64 ((k : Int) - 1) (by omega) (by omega)
                rw [show ((k : Int) - 1).toNat = k - 1 by omega] at ik1
                have hlk := hx5 hk0
                have hlk' : decide ((x : Int) ≤ nth (nth (clsTo p p.length) i) (k - 1)) = false := by simpa using hlk
                clear hx1 hx3 hx4 hx5 hx6 hsl hcell5 hm5 he5 hset hbs hh
                go_wp2_with fail
                refine (Find_ok (H0.out.below HQ.out.2.2.2) HG.out.1 HS.out.1 HS.out.2).mono ?_; rintro e W7 ⟨rfl, q7⟩
                have HQ7 := Lib.hid (And.intro (HQ.out.2.1.qt q7) (HQ.out.2.2.1.trans (q7.below _)))
                have c7 : W7.cell? ⟨blk s1, ofs s1 + i, none⟩ = some (.slice ai (nth (clsTo p p.length) i).length cpi) := by rw [HQ7.out.2.cell (p := ⟨blk s1, ofs s1 + i, none⟩) (HR.out.2.1 i hlt), HR.out.1 i hlt, HE.out.2.2.2]
                have c8 : W7.cell? ⟨blk ai, ofs ai, none⟩ = some (.int .i64 (hd p i : Int)) := by
                  rw [HQ7.out.2.cell (p := ⟨blk ai, ofs ai, none⟩) (HE.out.2.2.1 0 hLp), ← HE.out.1.2]; exact HE.out.2.1 0 hLp
                clear q7
                go_wp2_with fail
                go_roundw
                case rel => exact ⟨k + 1, n + 1, _, by omega, by omega, by go_num, by go_num, HQ.out.1, HQ7.out.1, HQ7.out.2⟩
                case measure => simp [intOf]; omega
              · have hdk : decide ((0 : Int) < (k : Int)) = false := by simpa using hk0
                clear hx1 hx3 hx4 hx5 hx6 hsl hcell5 hm5 he5 hset hbs hh
                go_wp2_with fail
                refine (Find_ok (H0.out.below HQ.out.2.2.2) HG.out.1 HS.out.1 HS.out.2).mono ?_; rintro e W7 ⟨rfl, q7⟩
                have HQ7 := Lib.hid (And.intro (HQ.out.2.1.qt q7) (HQ.out.2.2.1.trans (q7.below _)))
                have c7 : W7.cell? ⟨blk s1, ofs s1 + i, none⟩ = some (.slice ai (nth (clsTo p p.length) i).length cpi) := by rw [HQ7.out.2.cell (p := ⟨blk s1, ofs s1 + i, none⟩) (HR.out.2.1 i hlt), HR.out.1 i hlt, HE.out.2.2.2]
                have c8 : W7.cell? ⟨blk ai, ofs ai, none⟩ = some (.int .i64 (hd p i : Int)) := by
                  rw [HQ7.out.2.cell (p := ⟨blk ai, ofs ai, none⟩) (HE.out.2.2.1 0 hLp), ← HE.out.1.2]; exact HE.out.2.1 0 hLp
                clear q7
                go_wp2_with fail
                go_roundw
                case rel => exact ⟨k + 1, n + 1, _, by omega, by omega, by go_num, by go_num, HQ.out.1, HQ7.out.1, HQ7.out.2⟩
                case measure => simp [intOf]; omega
            · obtain rfl : k = (nth (clsTo p p.length) i).length := by omega
              have HN := Lib.hid (And.intro (hh.out.1.next HG.out.2 (by omega)) hh.out.2)
              clear hh
              go_wp2_with fail
              go_roundw
              case rel => exact ⟨i + 1, n, s, by omega, hn, rfl, by go_num, HN.out.1, HN.out.2.1, HN.out.2.2⟩
              case measure => simp [intOf]; omega
      · obtain rfl : i = m := by omega
        have hfin := SeenInv.fin HG.out.2 (by rw [hmm]; exact hh.out.1)
        subst hfin
        have hbb := HB.out.1.trans (hh.out.2.2.mono HB.out.1.size)
        have HD := Lib.hid hbb
        clear hbb
        go_wp2_with fail
        refine (awake_any _).mono ?_; rintro e w5 ⟨rfl, b5⟩
        go_wp2_with fail
        go_ret
        exact ⟨rfl, HD.out.trans (b5.mono HD.out.size)⟩
  · have hc0' : (chk p != 0) = true := by simpa using hc0
    have HG := Lib.hid hc0
    clear hc0
    go_enter Try.func9, Try.ntmps9
    go_wp2_with fail
    refine (Classes_any _ p _ (H0.out.below h0)).mono ?_
    rintro e W1 (⟨-, rfl, q1⟩ | ⟨hbad, -⟩)
    · have h1 : Below w.heap.size w W1 := h0.trans q1
      go_wp2_with fail
      refine (RCheck_any _ p _ (H0.out.below h1)).mono ?_; rintro e W2 ⟨rfl, q2⟩
      have h2 : Below w.heap.size w W2 := h1.trans (q2.below _)
      go_wp2_with fail
      refine (RCheck_any _ p _ (H0.out.below h2)).mono ?_; rintro e W3 ⟨rfl, q3⟩
      have h3 : Below w.heap.size w W3 := h2.trans (q3.below _)
      go_wp2_with fail
      refine (awake_any _).mono ?_; rintro e w5 ⟨rfl, b5⟩
      go_wp2_with fail
      go_ret
      exact ⟨rfl, h3.trans (b5.mono h3.size)⟩
    · exact absurd hbad HG.out

set_option maxRecDepth 100000 in
theorem PartitionClasses_lifted (os : Os) (started : os.Started) (H : Type) (enc : TypeId × Value → H) :
    ReturnsInHanded {} Try.checked os 9 .any (Rows.partitionClassesSpec.pre6 enc Try.prog Try.f9 Rows.partitionClassesRow.domain false) (Rows.partitionClassesSpec.post enc Try.prog Try.f9 false true false false) := by
  refine returnsInHanded_of_change (C := Try.checked) own started (by kernel_rfl) Try.func9
    (ChangeSpec.witness6 (enc := enc) (C := Try.checked) false ⟨#[], #[.slice none 0 0], []⟩ 8 (by kernel_rfl) (by kernel_rfl) (by kernel_rfl) (by kernel_rfl)) ?_
  intro W base args ds gs before hval0 hW hcnd _
  have hval : ∀ (j : Nat) t v, Try.f9.params[j]? = some t → args[j]? = some v → Value.okWide Try.prog W .any base t v := hval0
  have hW' := hW
  obtain ⟨p, q, hA0, hV, rfl, hfz, hnd⟩ := hW
  have hA : DataW.TrodAll enc Try.prog W 0 (fun _ => true) true Try.f9.params.toList args.toList ds p := hA0
  rw [Try.params9] at hA hval
  obtain ⟨v0, vs0, d0, ds0, p0, q0, hargs, rfl, rfl, h0, r0⟩ := trodAll_cons hA
  obtain ⟨rfl, rfl, rfl⟩ := trodAll_nil r0
  obtain rfl : args = #[v0] := by cases args; simp_all
  obtain ⟨rfl, rfl⟩ := trodVars_none hV
  obtain ⟨a0, len0, cap0, rfl⟩ := okWide_slice Try.underlying24 (hval 0 24 v0 rfl rfl)
  have k0 := h0
  have lt0 : ∀ x ∈ p0, x.block < W.heap.size := by obtain ⟨m, hm⟩ := k0; exact DataW.trod_lt m _ _ _ hm
  obtain ⟨l0, hl0, hI0, b0⟩ := ints_of_trod Try.underlying24 Try.underlying3 (by kernel_rfl) h0
  clear hA0 hval0
  refine (PartitionClasses_walk _ l0 W hI0 b0).mono fun e W' ⟨he, bel⟩ => ?_
  subst he
  exact ⟨_, rfl, _, _, _, [], _, [], hW', trodAll_mk1 (shut_bool Try.underlying4 _), (trodAll_cons_mk (Below.trod laidOut (by kernel_rfl) (of_decide_eq_true (by kernel_rfl)) k0 bel lt0) trodAll_mk0), rfl, bel.frame _, fun h => by cases h⟩

/-- The given statement. -/
theorem PartitionClasses_holds : Rows.PartitionClassesSaid :=
  OpenClaim.holds_of_wide 9 Try.f9 rfl rfl rfl rfl rfl rfl rfl ⟨rfl, rfl, rfl, rfl, rfl⟩ rfl rfl rfl rfl rfl (by kernel_rfl) Try.func9 (by kernel_rfl)
    (of_decide_eq_true (by kernel_rfl)) (by unfold Func.isWrapper; first | (rw [if_pos (by decide +kernel)]; kernel_rfl) | (rw [if_neg (by decide +kernel)]; exact ⟨rfl, rfl⟩))
    (fun os started H enc _ => PartitionClasses_lifted os started H enc)

end Go.Proofs.Ytmgeadhiohlblaa
