/- partition.Of: the walk. -/
import Derived.Test.YtmgeadhiohlblaaPartE
namespace Go.Proofs.Ytmgeadhiohlblaa
open Go.RowKit Go.Dfl

theorem sEdge : SliceOf Try.prog 22 35 (.agg #[.int .i64 0, .int .i64 0]) 2 16 := ⟨Try.underlying22, info_parts (P := Try.prog) (e := 35) (by kernel_rfl)⟩

def okB (n : Nat) (d : Int × Int) : Bool := memB n d.1 && memB n d.2
def ofOk (n : Int) (pairs : List (Int × Int)) : Bool := decide (0 ≤ n ∧ n ≤ 8192) && pairs.all (okB n.toNat)
def ofStep (P : List Int) (d : Int × Int) : List Int := joinOf P d.1 d.2
def ofL (n : Nat) (pairs : List (Int × Int)) : List Int := pairs.foldl ofStep (upto n)

def OfPost (n : Int) (pairs : List (Int × Int)) (w : World) (e : Ending) (w' : World) : Prop :=
  (ofOk n pairs = false ∧ e = .returned (.tuple #[.slice none 0 0, .int .i64 4]) ∧ Below w.heap.size w w') ∨
  (ofOk n pairs = true ∧ ∃ v, e = .returned (.tuple #[v, .int .i64 0]) ∧ OwnI w' w.heap.size 3 v (ofL n.toNat pairs) ∧ Below w.heap.size w w')

/-- The state of the two loops. -/
structure OfInv (n : Nat) (v : Value) (bp : Nat) (L : List Int) (w wr : World) : Prop where
  own : OwnI wr w.heap.size 3 v L
  len : L.length = n
  box : wr.heap[bp]? = some (.cells #[v] 24 (0, 0))
  bpge : w.heap.size ≤ bp
  ne : v.ownBlock ≠ some bp
  below : Below w.heap.size w wr

theorem OfInv.boxc {n : Nat} {v : Value} {bp : Nat} {L : List Int} {w wr : World} (h : OfInv n v bp L w wr) : wr.cell? ⟨bp, 0, none⟩ = some v := by
  simp [World.cell?, h.box]
theorem OfInv.alloc {n : Nat} {v : Value} {bp : Nat} {L : List Int} {w wr : World} (h : OfInv n v bp L w wr) (o : Obj) : OfInv n v bp L w (wr.alloc o) :=
  ⟨h.own.alloc o, h.len, by rw [Below.heap_alloc _ _ _ (Array.getElem?_eq_some_iff.1 h.box).1]; exact h.box, h.bpge, h.ne, h.below.alloc h.below.size o⟩
theorem OfInv.qt {n : Nat} {v : Value} {bp : Nat} {L : List Int} {w wr wr' : World} (h : OfInv n v bp L w wr) (hq : Qt wr wr') : OfInv n v bp L w wr' := by
  obtain ⟨k, rfl⟩ := hq
  exact ⟨h.own.qt (Qt.drewN _ _), h.len, h.box, h.bpge, h.ne, below_drewN h.below k⟩

theorem OfInv.grown {n : Nat} {v : Value} {bp : Nat} {L L' : List Int} {w W W' : World} (h : OfInv n v bp L w W) (hg : W.grownBy W' v.ownBlock) (ho : OwnI W' w.heap.size 3 v L') (hl : L'.length = n) : OfInv n v bp L' w W' :=
  ⟨ho, hl, by rw [hg.block _ (Array.getElem?_eq_some_iff.1 h.box).1 (fun e => h.ne e.symm)]; exact h.box, h.bpge, h.ne, h.below.grown hg h.below.size fun k hk => (h.own.lt k hk).1⟩

/-- The class of worlds between the two calls of 'root'. -/
def RootCls (n : Nat) (v : Value) (bp : Nat) (P : List Int) (w : World) (db : Nat) (x y : Nat) (W : World) : Prop :=
  ∃ L, OfInv n v bp L w W ∧ Forest L ∧ Rooted L P ∧ W.cell? ⟨db, 0, none⟩ = some (.int .i64 x) ∧ W.cell? ⟨db, 1, none⟩ = some (.int .i64 y) ∧ db ≠ bp ∧ v.ownBlock ≠ some db ∧ db < W.heap.size

theorem root_cls (z n : Nat) (v : Value) (bp : Nat) (P : List Int) (w : World) (db : Nat) (x y : Nat) (W : World) (hz : z < n) (hn : n ≤ 8192) (h : RootCls n v bp P w db x y W) :
    Calls Try.prog 26 #[.int .i64 z, .pointer (some ⟨bp, 0, none⟩)] W fun e W' => e = .returned (.int .i64 (nth P z)) ∧ RootCls n v bp P w db x y W' := by
  obtain ⟨L, hI, hF, hR, c1, c2, h1, h2, h3⟩ := h
  refine (root_any z n P L w.heap.size v bp W hI.own hI.len hz hF hR hI.boxc hI.ne hn).mono ?_
  rintro e W' ⟨L', rfl, ho, hl, hF', hR', hg⟩
  exact ⟨rfl, L', hI.grown hg ho hl, hF', hR', hg.cell c1 (fun e => h2 e.symm), hg.cell c2 (fun e => h2 e.symm), h1, h2, Nat.lt_of_lt_of_le h3 hg.size⟩

theorem mnmx {L P : List Int} (h : Rooted L P) (x y : Nat) (hx : x < L.length) (hy : y < L.length) :
    0 ≤ mx (nth P x) (nth P y) ∧ mx (nth P x) (nth P y) < L.length ∧ 0 ≤ mn (nth P x) (nth P y) ∧ mn (nth P x) (nth P y) ≤ mx (nth P x) (nth P y) ∧
    nth L (mx (nth P x) (nth P y)).toNat = mx (nth P x) (nth P y) ∧ nth L (mn (nth P x) (nth P y)).toNat = mn (nth P x) (nth P y) := by
  have h1 := h.rng x hx
  have h2 := h.rng y hy
  have h3 := h.root x hx
  have h4 := h.root y hy
  have h5 := mn_le (nth P x) (nth P y)
  have h6 := mx_ge (nth P x) (nth P y)
  refine ⟨by omega, by omega, by omega, by omega, ?_, ?_⟩
  · rcases h6.2.2 with e | e <;> rw [e] <;> assumption
  · rcases h5.2.2 with e | e <;> rw [e] <;> assumption

theorem Rooted.union {L P : List Int} (hF : Forest L) (h : Rooted L P) (A B : Int) (hB0 : 0 ≤ B) (hB : B < L.length) (hA0 : 0 ≤ A) (hAB : A ≤ B) (rB : nth L B.toNat = B) (rA : nth L A.toNat = A) :
    Forest (L.set B.toNat A) ∧ Rooted (L.set B.toNat A) (joinL P A B) := by
  have pA : nth P A.toNat = A := by have := h.fix A.toNat (by omega) (by rw [rA]; omega); rw [this]; omega
  have pB : nth P B.toNat = B := by have := h.fix B.toNat (by omega) (by rw [rB]; omega); rw [this]; omega
  have hl := h.len
  refine ⟨fun i hi => ?_, by simp [joinL_len, hl], fun i hi => ?_, fun i hi hf => ?_, fun i hi => ?_, fun i hi => ?_⟩ <;> simp only [List.length_set] at hi
  · rw [nth_set]; split
    · omega
    · exact hF i hi
  · have hFi := hF i hi
    by_cases e : B.toNat = i
    · have e1 : par (L.set B.toNat A) i = A.toNat := by unfold par; rw [nth_set, if_pos ⟨e, by omega⟩]
      rw [e1, joinL_nth _ _ _ _ (by omega), joinL_nth _ _ _ _ (by omega), pA, ← e, pB, if_pos rfl]
      split <;> rfl
    · have e1 : par (L.set B.toNat A) i = par L i := by unfold par; rw [nth_set, if_neg (by omega)]
      rw [e1, joinL_nth _ _ _ _ (by unfold par; omega), joinL_nth _ _ _ _ (by omega), h.up i hi]
  · rw [nth_set] at hf
    rw [joinL_nth _ _ _ _ (by omega)]
    split at hf
    · rename_i e
      rw [← e.1, pB, if_pos rfl]; omega
    · rename_i e
      have := h.fix i hi hf
      rw [this, if_neg (by omega)]
  · have := h.rng i hi
    rw [joinL_nth _ _ _ _ (by omega)]; split <;> omega
  · have r1 := h.rng i hi
    have r2 := h.root i hi
    rw [joinL_nth _ _ _ _ (by omega)]
    split
    · rename_i e
      rw [nth_set]; split
      · rfl
      · exact rA
    · rename_i e
      rw [nth_set, if_neg (by omega)]; exact r2

theorem ofL_snoc (n : Nat) (pairs : List (Int × Int)) (k : Nat) (h : k < pairs.length) (x y : Nat) (hx : (nth pairs k).1 = x) (hy : (nth pairs k).2 = y) :
    ofL n (pairs.take (k+1)) = joinL (ofL n (pairs.take k)) (mn (nth (ofL n (pairs.take k)) x) (nth (ofL n (pairs.take k)) y)) (mx (nth (ofL n (pairs.take k)) x) (nth (ofL n (pairs.take k)) y)) := by
  rw [take_snoc _ _ h]
  simp [ofL, List.foldl_append, ofStep, joinOf, hx, hy]

theorem own_set_inv {n : Nat} {s : Option Addr} {cap2 : Nat} {bp : Nat} {L : List Int} {w W : World} (hI : OfInv n (.slice s n cap2) bp L w W) (i : Nat) (hi : i < n) (z : Int) :
    OfInv n (.slice s n cap2) bp (L.set i z) w (W.setCell ⟨blk s, ofs s + i, none⟩ (.int .i64 z)) := by
  have hbl := hI.own.blkge (by have := hI.len; omega)
  have hob : (Value.slice s n cap2).ownBlock = some (blk s) := by
    rcases s with _ | s
    · have := hI.own.2; have := hI.len; simp at *; omega
    · simp [Value.ownBlock, blk]
  refine ⟨hI.own.set i z, by simpa using hI.len, ?_, hI.bpge, hI.ne, hI.below.setCell hbl.1 _⟩
  rw [Below.heap_setCell _ _ _ _ (by intro e; apply hI.ne; rw [hob, e])]
  exact hI.box

theorem ofOk_snoc {n : Nat} {pairs : List (Int × Int)} {k : Nat} (hk : k < pairs.length) (h : (pairs.take k).all (okB n) = true) : (pairs.take (k+1)).all (okB n) = okB n (nth pairs k) := by
  rw [take_snoc _ _ hk, List.all_append, h]; simp
theorem ofOk_bad {n : Nat} {pairs : List (Int × Int)} {k : Nat} (hk : k < pairs.length) (h : okB n (nth pairs k) = false) : pairs.all (okB n) = false := by
  rw [Bool.eq_false_iff]; intro hh
  have := List.all_eq_true.1 hh _ (nth_mem _ _ hk)
  rw [h] at this; simp at this

theorem forest_upto (n : Nat) : Forest (upto n) := fun i hi => by rw [upto_len] at hi; rw [upto_nth _ _ hi]; omega
theorem rooted_upto (n : Nat) : Rooted (upto n) (upto n) := by
  refine ⟨rfl, fun i hi => ?_, fun i hi h => h, fun i hi => forest_upto n i hi, fun i hi => ?_⟩ <;> rw [upto_len] at hi
  · unfold par; rw [upto_nth _ _ hi]; simp [upto_nth _ _ hi]
  · rw [upto_nth _ _ hi]; simp [upto_nth _ _ hi]

set_option maxHeartbeats 1600000 in
set_option maxRecDepth 100000 in
theorem Of_any (n : Int) (v : Value) (pairs : List (Int × Int)) (w : World) (h : Pairs w v pairs) :
    Calls Try.prog 11 #[.int .i64 n, v] w (OfPost n pairs w) := by
  obtain ⟨a, cap, rfl, hm, hidx, hcell, hblk⟩ := h.out2 sEdge
  clear h
  by_cases hn : n < 0 ∨ 8192 < n
  · have hbad : ofOk n pairs = false := by simp [ofOk]; omega
    go_enter Try.func11, Try.ntmps11
    go_wp2_with fail
    refine (New_out n _ hn).mono ?_; rintro e w' ⟨rfl, rfl⟩
    go_wp2_with fail
    go_ret2
    exact .inl ⟨hbad, rfl, (Below.refl _ _).alloc (Nat.le_refl _) _⟩
  · obtain ⟨n, rfl⟩ := Int.eq_ofNat_of_zero_le (by omega : 0 ≤ n)
    have hn2 : n ≤ 8192 := by omega
    clear hn
    go_enter Try.func11, Try.ntmps11
    go_wp2_with fail
    refine (New_in n _ hn2).mono ?_; rintro e w1 ⟨v, rfl, ho, hb⟩
    obtain ⟨s, cap2, rfl⟩ := ho.shape (upto_len n)
    go_wp2_with fail
    obtain ⟨bp, hbp⟩ : ∃ bp, bp = w1.heap.size := ⟨_, rfl⟩
    have hsz := hb.size
    have hI : OfInv n (.slice s n cap2) bp (upto n) w (w1.alloc (.cells #[.slice s n cap2] 24)) := by
      refine ⟨ho.alloc _, upto_len n, ?_, by omega, ?_, hb.alloc hb.size _⟩
      · subst hbp; exact heap_alloc_new _ _
      · intro e; have := (ho.lt _ e).2; omega
    rw [← hbp]
    have HI := Lib.hid hI
    have M : ∀ L W x, Ints W (.slice s n cap2) L → L.length = n → Calls Try.prog 25 #[.slice s n cap2, .int .i64 x] W fun e w' => e = .returned (.bool (memB n x)) ∧ Qt W w' :=
      fun L W x h hl => by have := member_any _ _ x W h; rwa [hl] at this
    have HM := Lib.hid M
    clear hI ho hb hbp hsz M
    go_loopw [26] (fun i wr => ∃ k : Nat, k ≤ pairs.length ∧ i = .int .i64 k ∧ Hid (OfInv n (.slice s n cap2) bp (upto n) w wr ∧ (pairs.take k).all (okB n) = true)) (fun i _ => pairs.length - (intOf i).toNat)
    case atStart => exact ⟨0, by omega, rfl, HI.out, rfl⟩
    case round =>
      clear HI
      obtain ⟨k, hk, rfl, hh⟩ := hrel
      by_cases hlt : k < pairs.length
      · obtain ⟨hI, hall⟩ := hh.out
        have hboxc := hI.boxc
        have hbpl := (Array.getElem?_eq_some_iff.1 hI.box).1
        have c1 : wr.cell? ⟨blk a, ofs a + k * 2, none⟩ = some (.int .i64 (nth pairs k).1) := by
          rw [hI.below.cell (p := ⟨blk a, ofs a + k * 2, none⟩) (hblk k hlt)]; simpa using (hcell k hlt).1
        have c2 : wr.cell? ⟨blk a, ofs a + k * 2 + 1, none⟩ = some (.int .i64 (nth pairs k).2) := by
          rw [hI.below.cell (p := ⟨blk a, ofs a + k * 2 + 1, none⟩) (hblk k hlt)]; simpa using (hcell k hlt).2
        have hsz := hI.below.size
        have h1 := hblk k hlt
        have hIn : Ints (wr.alloc (.cells #[.int .i64 (nth pairs k).1, .int .i64 (nth pairs k).2] 35)) (.slice s n cap2) (upto n) := (hI.own.alloc _).lst
        have hul : (upto n).length = n := upto_len n
        have HH := Lib.hid (And.intro hI (And.intro hall (And.intro hIn hul)))
        clear hh hI hall hcell hIn hul
        cases e1 : memB n (nth pairs k).1
        · go_wp2_with fail
          refine (HM.out _ _ _ HH.out.2.2.1 HH.out.2.2.2).mono ?_; rintro e w' ⟨rfl, nw, rfl⟩
          go_wp2_with fail
          go_ret2
          refine .inl ⟨?_, rfl, ?_⟩
          · simp only [ofOk, Int.toNat_natCast, ofOk_bad hlt (show okB n (nth pairs k) = false by simp [okB, e1]), Bool.and_false]
          · exact below_drewN (HH.out.1.alloc _).below _
        cases e2 : memB n (nth pairs k).2
        · go_wp2_with fail
          refine (HM.out _ _ _ HH.out.2.2.1 HH.out.2.2.2).mono ?_; rintro e w' ⟨rfl, nw, rfl⟩
          go_wp2_with fail
          refine (HM.out _ _ _ (HH.out.2.2.1.qt (Qt.drewN _ _)) HH.out.2.2.2).mono ?_; rintro e w' ⟨rfl, nw', rfl⟩
          go_wp2_with fail
          go_ret2
          refine .inl ⟨?_, rfl, ?_⟩
          · simp only [ofOk, Int.toNat_natCast, ofOk_bad hlt (show okB n (nth pairs k) = false by simp [okB, e2]), Bool.and_false]
          · exact below_drewN (HH.out.1.alloc _).below _
        go_wp2_with fail
        refine (HM.out _ _ _ HH.out.2.2.1 HH.out.2.2.2).mono ?_; rintro e w' ⟨rfl, nw, rfl⟩
        go_wp2_with fail
        refine (HM.out _ _ _ (HH.out.2.2.1.qt (Qt.drewN _ _)) HH.out.2.2.2).mono ?_; rintro e w' ⟨rfl, nw', rfl⟩
        go_wp2_with fail
        go_roundw
        case rel => exact ⟨k + 1, by omega, by go_num, (HH.out.1.alloc _).qt (by first | exact Qt.refl _ | exact Qt.drewN _ _ | exact (Qt.drewN _ _).trans (Qt.drewN _ _) | exact ((Qt.drewN _ _).trans (Qt.drewN _ _)).trans (Qt.drewN _ _) | exact Qt.drew _ | exact (Qt.drewN _ _).trans (Qt.drew _)), by rw [ofOk_snoc hlt HH.out.2.1]; simp [okB, e1, e2]⟩
        case measure => simp [intOf]; omega
      · obtain ⟨hI, hall⟩ := hh.out
        rw [List.take_of_length_le (by omega)] at hall
        have HI := Lib.hid hI
        have HA := Lib.hid hall
        clear hh hI hall
        go_wp2_with fail
        go_loopw [13, 14, 46] (fun _ _ i wr => ∃ (k : Nat) (L : List Int), k ≤ pairs.length ∧ i = .int .i64 k ∧ Hid (OfInv n (.slice s n cap2) bp L w wr ∧ Forest L ∧ Rooted L (ofL n (pairs.take k)))) (fun _ _ i _ => pairs.length - (intOf i).toNat)
        case atStart => exact ⟨0, upto n, by omega, rfl, HI.out, forest_upto n, rooted_upto n⟩
        case round =>
          clear HI
          obtain ⟨k, L, hk, rfl, hh⟩ := hrel
          by_cases hlt : k < pairs.length
          · obtain ⟨hI, hF, hR⟩ := hh.out
            have hboxc := hI.boxc
            have hbpl := (Array.getElem?_eq_some_iff.1 hI.box).1
            have c1 : wr.cell? ⟨blk a, ofs a + k * 2, none⟩ = some (.int .i64 (nth pairs k).1) := by
              rw [hI.below.cell (p := ⟨blk a, ofs a + k * 2, none⟩) (hblk k hlt)]; simpa using (hcell k hlt).1
            have c2 : wr.cell? ⟨blk a, ofs a + k * 2 + 1, none⟩ = some (.int .i64 (nth pairs k).2) := by
              rw [hI.below.cell (p := ⟨blk a, ofs a + k * 2 + 1, none⟩) (hblk k hlt)]; simpa using (hcell k hlt).2
            have hsz := hI.below.size
            have h1 := hblk k hlt
            have hok := List.all_eq_true.1 HA.out _ (nth_mem _ _ hlt)
            simp only [okB, Bool.and_eq_true, memB_iff] at hok
            obtain ⟨⟨p1, p2⟩, p3, p4⟩ := hok
            obtain ⟨x, hx⟩ := Int.eq_ofNat_of_zero_le p1
            obtain ⟨y, hy⟩ := Int.eq_ofNat_of_zero_le p3
            rw [hx] at c1
            rw [hy] at c2
            have hxn : x < n := by omega
            have hyn : y < n := by omega
            have HH := Lib.hid (And.intro hI (And.intro hF (And.intro hR (And.intro hx hy))))
            clear hh hI hF hR hcell p1 p2 p3 p4 hx hy
            have hC : RootCls n (.slice s n cap2) bp (ofL n (pairs.take k)) w wr.heap.size x y (wr.alloc (.cells #[.int .i64 x, .int .i64 y] 35)).drew := by
              obtain ⟨hI, hF, hR, -, -⟩ := HH.out
              refine ⟨L, (hI.alloc _).qt (Qt.drew _), hF, hR, ?_, ?_, ?_, ?_, ?_⟩
              · simp [go_sem]
              · simp [go_sem]
              · omega
              · intro e; have := (hI.own.lt _ e).2; omega
              · simp
            generalize hP : ofL n (pairs.take k) = P at hC
            have HP := Lib.hid hP
            clear hP
            have q1 : ∀ q : Wd (RootCls n (.slice s n cap2) bp P w wr.heap.size x y), q.val.cell? ⟨wr.heap.size, 0, none⟩ = some (.int .i64 x) := fun q => by
              obtain ⟨W, L, h⟩ := q; exact h.2.2.2.1
            have q2 : ∀ q : Wd (RootCls n (.slice s n cap2) bp P w wr.heap.size x y), q.val.cell? ⟨wr.heap.size, 1, none⟩ = some (.int .i64 y) := fun q => by
              obtain ⟨W, L, h⟩ := q; exact h.2.2.2.2.1
            have HC := Lib.hid hC
            haveI hne : Nonempty (Wd (RootCls n (.slice s n cap2) bp P w wr.heap.size x y)) := ⟨⟨_, hC⟩⟩
            clear hC
            go_wp2_with fail
            refine wp_region_class (RootCls n (.slice s n cap2) bp P w wr.heap.size x y) (by kernel_rfl) (by kernel_rfl) HC.out ?_
            repeat (go_big_quiet_step ((go_at_call 26; exact class_of (root_cls _ n _ bp P w wr.heap.size x y _ (by assumption) hn2 (Wd.ok _)))))
            refine wpQuiet_nil ?_
            rintro _ ⟨⟨W, hW⟩, rfl⟩
            clear q1 q2
            obtain ⟨L', hI', hF', hR', -⟩ := hW
            have hl' := hI'.len
            obtain ⟨m1, m2, m3, m4, m5, m6⟩ := mnmx hR' x y (by omega) (by omega)
            have hmn := run_mn Try.prog
            have hmx := run_mx Try.prog
            have hbox := hI'.boxc
            have hfz := hI'.own.frozen (by omega) (ofs s + (mx (nth P x) (nth P y)).toNat)
            obtain ⟨a2, c2, he, hm2, hidx2, hcell2, _⟩ := hI'.own.lst.out1 sInt
            simp at he
            obtain ⟨rfl, he, rfl⟩ := he
            rw [hl'] at hidx2 hcell2 m2
            have hcm := hcell2 (mx (nth P x) (nth P y)).toNat (by omega)
            have hU := Rooted.union hF' hR' _ _ m1 (by rw [hl']; exact m2) m3 m4 m5 m6
            have hS := own_set_inv hI' (mx (nth P x) (nth P y)).toNat (by omega) (mn (nth P x) (nth P y))
            have hE : ofL n (pairs.take (k+1)) = joinL P (mn (nth P x) (nth P y)) (mx (nth P x) (nth P y)) := by
              have := ofL_snoc n pairs k hlt x y HH.out.2.2.2.1 HH.out.2.2.2.2
              rw [HP.out] at this; exact this
            have HU := Lib.hid (And.intro hS (And.intro hU.1 (And.intro hU.2 hE)))
            clear hI' hF' hR' hl' hU hS hE hcell2 he hm2 hne m5 m6 m3 m4 HC
            go_wp2_with fail
            go_roundw
            case rel =>
              obtain ⟨hS, hU1, hU2, hE⟩ := HU.out
              exact ⟨k + 1, _, by omega, by go_num, hS, hU1, by rw [hE]; exact hU2⟩
            case measure => simp [intOf]; omega
          · obtain ⟨hI, hF, hR⟩ := hh.out
            rw [List.take_of_length_le (by omega)] at hR
            have hbox := hI.boxc
            have HI := Lib.hid (And.intro hI (And.intro hF hR))
            clear hh hI hF hR
            go_wp2_with fail
            go_loopw [15, 69] (fun _ i wr => ∃ (k : Nat) (L : List Int), k ≤ n ∧ i = .int .i64 k ∧ Hid (OfInv n (.slice s n cap2) bp L w wr ∧ Forest L ∧ Rooted L (ofL n pairs) ∧ ∀ j, j < k → nth L j = nth (ofL n pairs) j)) (fun _ i _ => n - (intOf i).toNat)
            case atStart => exact ⟨0, L, by omega, rfl, HI.out.1, HI.out.2.1, HI.out.2.2, by omega⟩
            case round =>
              clear HI hbox
              obtain ⟨k, L, hk, rfl, hh⟩ := hrel
              obtain ⟨hI, hF, hR, hJ⟩ := hh.out
              clear hh
              have hl := hI.len
              have hbox := hI.boxc
              by_cases hlt : k < n
              · have hf1 := hF k (by omega)
                have hfz := hI.own.frozen (by omega) (ofs s + k)
                obtain ⟨a2, c2, he, hm2, hidx2, hcell2, _⟩ := hI.own.lst.out1 sInt
                simp at he
                obtain ⟨rfl, he, rfl⟩ := he
                rw [hl] at hidx2 hcell2
                have hck := hcell2 k hlt
                have hcp := hcell2 (nth L k).toNat (by omega)
                have k1 : 0 ≤ nth L k := hf1.1
                have k2 : nth L k < n := by omega
                have hS := own_set_inv hI k hlt (nth L (nth L k).toNat)
                have hN : ∀ j, j < k + 1 → nth (L.set k (nth L (nth L k).toNat)) j = nth (ofL n pairs) j := by
                  intro j hj
                  rw [nth_set]
                  by_cases e : k = j
                  · subst e
                    rw [if_pos ⟨rfl, by omega⟩]
                    by_cases e2 : nth L k = k
                    · rw [e2]; simp only [Int.toNat_natCast]; rw [e2]; exact (hR.fix k (by omega) e2).symm
                    · rw [hJ _ (by omega)]; exact hR.up k (by omega)
                  · rw [if_neg (by omega)]; exact hJ j (by omega)
                have HS := Lib.hid (And.intro hS (And.intro (hF.halve k (by omega)) (And.intro (hR.halve hF k (by omega)) hN)))
                clear hI hF hR hJ hl hf1 hcell2 he hm2 hS hN
                go_wp2_with fail
                go_region
                go_wp2_with fail
                go_roundw
                case rel =>
                  obtain ⟨hS, h1, h2, h3⟩ := HS.out
                  exact ⟨k + 1, _, by omega, by go_num, hS.qt (by first | exact Qt.refl _ | exact Qt.drewN _ _ | exact (Qt.drewN _ _).trans (Qt.drewN _ _) | exact ((Qt.drewN _ _).trans (Qt.drewN _ _)).trans (Qt.drewN _ _) | exact Qt.drew _ | exact (Qt.drewN _ _).trans (Qt.drew _)), h1, h2, h3⟩
                case measure => simp [intOf]; omega
              · have hLP : L = ofL n pairs := nth_ext hR.len.symm fun i hi => hJ i (by omega)
                have HS := Lib.hid (And.intro hI hLP)
                clear hI hF hR hJ hl hLP
                go_wp2_with fail
                go_ret2
                obtain ⟨hI, hLP⟩ := HS.out
                refine .inr ⟨?_, _, rfl, by have := hI.own; rw [hLP] at this; exact this, hI.below⟩
                simp only [ofOk, Int.toNat_natCast, HA.out, Bool.and_true, decide_eq_true_eq]
                omega

end Go.Proofs.Ytmgeadhiohlblaa
