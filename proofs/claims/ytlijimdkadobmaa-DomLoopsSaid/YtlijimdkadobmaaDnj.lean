/- Contract of Loops. -/
import Derived.Test.YtlijimdkadobmaaDni
namespace Go.Gra
open Go.Dfl (nth nth_mem mem_nth nth_eq nth_ext nth_set nth_append take_snoc)
/-- Where back edges to a node come from. -/
def startsN (g : G) (r h : Nat) : List Nat := (pre g.es h).filter (domB g r h)
def startsTo (g : G) (r h k : Nat) : List Nat := ((pre g.es h).take k).filter (domB g r h)
theorem startsTo_yes {g : G} {r h k : Nat} (hk : k < (pre g.es h).length) (hd : domB g r h (nth (pre g.es h) k) = true) : startsTo g r h (k + 1) = startsTo g r h k ++ [nth (pre g.es h) k] := by
  unfold startsTo; rw [take_snoc _ _ hk, List.filter_append, List.filter_cons_of_pos hd]; rfl
theorem startsTo_no {g : G} {r h k : Nat} (hk : k < (pre g.es h).length) (hd : domB g r h (nth (pre g.es h) k) = false) : startsTo g r h (k + 1) = startsTo g r h k := by
  unfold startsTo; rw [take_snoc _ _ hk, List.filter_append, List.filter_cons_of_neg (by rw [hd]; simp)]; simp
theorem startsTo_len (g : G) (r h k : Nat) : (startsTo g r h k).length ≤ k := Nat.le_trans (List.length_filter_le _ _) (by rw [List.length_take]; omega)
theorem startsTo_all (g : G) (r h : Nat) : startsTo g r h (pre g.es h).length = startsN g r h := by unfold startsTo startsN; rw [List.take_length]
theorem pre_lt {g : G} (h : VG g) {v x : Nat} (hx : x ∈ pre g.es v) : x < g.n.toNat := by
  obtain ⟨e, he, rfl⟩ := List.mem_map.1 hx
  have := h.inn e (List.mem_filter.1 he).1
  omega
theorem pre_len (es : List (Int × Int)) (v : Nat) : (pre es v).length ≤ es.length := by unfold pre; rw [List.length_map]; exact List.length_filter_le _ _
theorem domZ_nat {g : G} (hvg : VG g) {r a b : Nat} (hr : r < g.n.toNat) (ha : a < g.n.toNat) (hb : b < g.n.toNat) : domZ g r (a : Int) (b : Int) = domB g r a b := by
  unfold domZ reachB
  rw [nodeB_nat ha, nodeB_nat hb, Int.toNat_natCast, Int.toNat_natCast]
  cases hd : domB g r a b
  · simp
  · have h1 := (domB_iff hvg hr hb).1 hd
    rw [decide_eq_true (show b ∈ postL g r from h1.1), decide_eq_true (show a ∈ postL g r from dom_mem (dmC_ok hvg hr) h1)]; rfl
/-- The heads among the first k nodes. -/
def headsTo (g : G) (r k : Nat) : List Nat := (List.range k).filter fun h => !(startsN g r h).isEmpty
theorem headsTo_yes {g : G} {r k : Nat} (h : startsN g r k ≠ []) : headsTo g r (k + 1) = headsTo g r k ++ [k] := by
  unfold headsTo; rw [List.range_succ, List.filter_append, List.filter_cons_of_pos (by simpa using h)]; rfl
theorem headsTo_no {g : G} {r k : Nat} (h : startsN g r k = []) : headsTo g r (k + 1) = headsTo g r k := by
  unfold headsTo; rw [List.range_succ, List.filter_append, List.filter_cons_of_neg (by simp [h])]; simp
theorem headsTo_len (g : G) (r k : Nat) : (headsTo g r k).length ≤ k := Nat.le_trans (List.length_filter_le _ _) (by rw [List.length_range]; exact Nat.le_refl _)
/-- The nodes of a loop. -/
def LpN (g : G) (r h : Nat) (L : List Int) : Prop := L.Pairwise (· < ·) ∧ ∀ y : Int, y ∈ L ↔ ∃ v : Nat, y = (v : Int) ∧ v < g.n.toNat ∧ (v = h ∨ LpQ g r h (startsN g r h) v)
theorem LpN.unique {g : G} {r h : Nat} {L M : List Int} (a : LpN g r h L) (b : LpN g r h M) : L = M := asc_uniq a.1 b.1 fun y => (a.2 y).trans (b.2 y).symm
/-- The loops of a list of heads. -/
def LpsAre (g : G) (r : Nat) (hs : List Nat) (ls : List (Int × List Int)) : Prop := ls.length = hs.length ∧ ∀ i, i < hs.length → (nth ls i).1 = ((nth hs i : Nat) : Int) ∧ LpN g r (nth hs i) (nth ls i).2
theorem LpsAre.unique {g : G} {r : Nat} {hs : List Nat} {a b : List (Int × List Int)} (h : LpsAre g r hs a) (k : LpsAre g r hs b) : a = b := nth_ext (h.1.trans k.1.symm) fun i hi => by
  have h1 := h.2 i (by rw [← h.1]; exact hi)
  have h2 := k.2 i (by rw [← h.1]; exact hi)
  exact Prod.ext (h1.1.trans h2.1.symm) (h1.2.unique h2.2)
theorem LpsAre.snoc {g : G} {r h : Nat} {hs : List Nat} {ls : List (Int × List Int)} (a : LpsAre g r hs ls) {L : List Int} (b : LpN g r h L) : LpsAre g r (hs ++ [h]) (ls ++ [((h : Int), L)]) := by
  refine ⟨by rw [List.length_append, List.length_append, a.1]; rfl, fun i hi => ?_⟩
  rw [List.length_append, List.length_singleton] at hi
  rw [nth_append, nth_append, a.1]
  by_cases e : i < hs.length
  · rw [if_pos e, if_pos e]; exact a.2 i e
  · rw [if_neg e, if_neg e, show i - hs.length = 0 by omega]; exact ⟨rfl, b⟩
theorem memL_lpn {g : G} {r h : Nat} {o : List Nat} (ho : ∀ v, v ∈ o ↔ LpQ g r h (startsN g r h) v) : LpN g r h ((memL h o g.n.toNat).map fun x : Nat => (x : Int)) := by
  refine ⟨List.pairwise_map.2 ((List.pairwise_lt_range.filter _).imp fun {a b} h => by omega), fun y => ?_⟩
  rw [List.mem_map]
  unfold memL
  constructor
  · rintro ⟨v, hv, rfl⟩
    rw [List.mem_filter, List.mem_range, decide_eq_true_eq] at hv
    exact ⟨v, rfl, hv.1, (List.mem_cons.1 hv.2).imp id (ho v).1⟩
  · rintro ⟨v, rfl, hv, hq⟩
    refine ⟨v, ?_, rfl⟩
    rw [List.mem_filter, List.mem_range, decide_eq_true_eq]
    exact ⟨hv, List.mem_cons.2 (hq.imp id (ho v).2)⟩
end Go.Gra
namespace Go.Proofs.Ytlijimdkadobmaa
open Go.RowKit Go.Dfl Go.Gra
/-- A loop as it lies in memory. -/
structure LpE where
  h : Int
  a : Option Addr
  n : Nat
  c : Nat
instance : Inhabited LpE := ⟨⟨0, none, 0, 0⟩⟩
def LpE.row (x : LpE) : Value := .slice x.a x.n x.c
def ELp : El LpE := ⟨2, fun x => [.int .i64 x.h, x.row], fun _ => rfl, fun x v hv => by
  rcases List.mem_cons.1 hv with rfl | hv
  · rfl
  · rw [List.mem_singleton.1 hv]; rfl, by omega⟩
theorem sLoopG : SliceOf Try.prog 27 33 (.agg #[.int .i64 0, .slice none 0 0]) 2 32 := ⟨Try.underlying27, info_parts (P := Try.prog) (e := 33) (by kernel_rfl)⟩
/-- Loops that are only read. -/
def LpV (W : World) (v : Value) (ls : List (Int × List Int)) : Prop := ∃ es : List LpE, Sliced W v es.length 2 (fun i j => ((ELp.c (nth es i))[j]?).getD undef) ∧ es.length = ls.length ∧ ∀ i, i < ls.length → (nth es i).h = (nth ls i).1 ∧ Ints W (nth es i).row (nth ls i).2
theorem LpV.below {W W' : World} {v : Value} {ls : List (Int × List Int)} (h : LpV W v ls) (hb : Below W.heap.size W W') : LpV W' v ls := by
  obtain ⟨es, h1, h2, h3⟩ := h
  exact ⟨es, h1.below hb, h2, fun i hi => ⟨(h3 i hi).1, (h3 i hi).2.below hb⟩⟩
/-- Loops of the call's own. -/
structure LoW (B : Nat) (v : Value) (es : List LpE) (ls : List (Int × List Int)) (W : World) : Prop where
  out : OwnE ELp W B 33 v es
  len : es.length = ls.length
  hd : ∀ i, i < ls.length → (nth es i).h = (nth ls i).1
  inn : ∀ i, i < ls.length → OwnI W B 3 (nth es i).row (nth ls i).2
  apart : ∀ i, i < ls.length → ∀ q, (nth es i).row.ownBlock = some q → v.ownBlock ≠ some q
section
variable {B : Nat} {v : Value} {es : List LpE} {ls : List (Int × List Int)} {W W' : World}
theorem LoW.nil : LoW B (.slice none 0 0) [] [] W := ⟨OwnE.nil _ _ _ _, rfl, fun i hi => by simp at hi, fun i hi => by simp at hi, fun i hi => by simp at hi⟩
theorem LoW.view (h : LoW B v es ls W) : LpV W v ls := ⟨es, h.out.sliced, h.len, fun i hi => ⟨h.hd i hi, (h.inn i hi).lst⟩⟩
theorem LoW.below (h : LoW B v es ls W) (hb : Below W.heap.size W W') : LoW B v es ls W' := ⟨h.out.grown (grownBy_below hb) (by cases v.ownBlock <;> simp), h.len, h.hd, fun i hi => (h.inn i hi).below hb, h.apart⟩
theorem LoW.push (h : LoW B v es ls W) {x : LpE} {l : List Int} {v' : Value} (ho : OwnE ELp W' B 33 v' (es ++ [x])) (hg : W.grownBy W' v.ownBlock) (hl : v'.ownBlock = v.ownBlock ∨ v'.ownBlock = some W.heap.size) (hr : OwnI W B 3 x.row l) (hs : ∀ q, x.row.ownBlock = some q → v.ownBlock ≠ some q) : LoW B v' (es ++ [x]) (ls ++ [(x.h, l)]) W' := by
  have hn : ∀ i, i < ls.length → nth (es ++ [x]) i = nth es i := fun i hi => by rw [nth_append, if_pos (by rw [h.len]; exact hi)]
  have hn2 : ∀ i, i < ls.length → nth (ls ++ [(x.h, l)]) i = nth ls i := fun i hi => by rw [nth_append, if_pos hi]
  have hx : nth (es ++ [x]) ls.length = x := by rw [nth_append, if_neg (by rw [h.len]; omega), h.len, Nat.sub_self]; rfl
  have hx2 : nth (ls ++ [(x.h, l)]) ls.length = (x.h, l) := by rw [nth_append, if_neg (by omega), Nat.sub_self]; rfl
  have hne : ∀ (y : Value), (∀ q, y.ownBlock = some q → v.ownBlock ≠ some q) → y.ownBlock = none ∨ y.ownBlock ≠ v.ownBlock := fun y hy => by
    cases e : y.ownBlock with
    | none => exact .inl rfl
    | some q => exact .inr fun e2 => hy q e e2.symm
  have hap : ∀ (y : Value), (∀ q, y.ownBlock = some q → v.ownBlock ≠ some q) → (∀ q, y.ownBlock = some q → q < W.heap.size) → ∀ q, y.ownBlock = some q → v'.ownBlock ≠ some q := fun y h1 h2 q e e2 => by
    rcases hl with h3 | h3
    · exact h1 q e (h3 ▸ e2)
    · rw [h3] at e2; have := Option.some.inj e2; have := h2 q e; omega
  have split : ∀ i, i < (ls ++ [(x.h, l)]).length → i < ls.length ∨ i = ls.length := fun i hi => by rw [List.length_append, List.length_singleton] at hi; omega
  refine ⟨ho, by rw [List.length_append, List.length_append, h.len]; rfl, fun i hi => ?_, fun i hi => ?_, fun i hi q hq => ?_⟩
  · rcases split i hi with hi | rfl
    · rw [hn i hi, hn2 i hi]; exact h.hd i hi
    · rw [hx, hx2]
  · rcases split i hi with hi | rfl
    · rw [hn i hi, hn2 i hi]; exact (h.inn i hi).grown hg (hne _ (h.apart i hi))
    · rw [hx, hx2]; exact hr.grown hg (hne _ hs)
  · rcases split i hi with hi | rfl
    · rw [hn i hi] at hq; exact hap _ (h.apart i hi) (fun q e => ((h.inn i hi).lt q e).2) q hq
    · rw [hx] at hq; exact hap _ hs (fun q e => (hr.lt q e).2) q hq
end
def loopsZ (g : G) (r : Int) : List Nat := if dcode g r = 0 then headsTo g r.toNat g.n.toNat else []
def LoopsR (g : G) (r : Int) (W : World) (e : Ending) (W' : World) : Prop := ∃ a c ls, e = .returned (.tuple #[.slice a ls.length c, .int .i64 (dcode g r)]) ∧ LpV W' (.slice a ls.length c) ls ∧ LpsAre g r.toNat (loopsZ g r) ls ∧ Below W.heap.size W W'
set_option maxHeartbeats 3200000 in
set_option maxRecDepth 100000 in
theorem dLoops_any (g : G) (cv : Value) (r : Int) (W : World) (h : Pairs W cv g.es) : Calls Try.prog 11 #[GV g cv, .int .i64 r] W (LoopsR g r W) := by
  obtain ⟨ca, cc, rfl, -, -, -⟩ := pairs_rd h
  have hal := (Below.refl W.heap.size W).alloc (Nat.le_refl _) (.cells #[.int .i64 g.n, .slice ca g.es.length cc] 24)
  have H0 := Lib.hid (And.intro (h.below hal) (And.intro hal (BoxG.new W g.n (.slice ca g.es.length cc) 24)))
  clear h hal
  unfold GV
  go_enter Try.func11, Try.ntmps11
  go_wp2_with fail
  have hck := dcheck_any g (.slice ca g.es.length cc) r _ H0.out.1
  unfold GV at hck
  refine hck.mono ?_
  rintro e W1 ⟨rfl, r1⟩
  have H1 := Lib.hid (And.intro (H0.out.1.below r1) (And.intro (H0.out.2.1.trans (r1.mono H0.out.2.1.size)) (H0.out.2.2.below r1)))
  clear r1 hck
  obtain ⟨c0, c1⟩ := H1.out.2.2
  by_cases hc : dcode g r = 0
  · obtain ⟨v1, v2, v3⟩ := dcode_ok hc
    obtain ⟨k, rfl⟩ : ∃ k : Nat, r = (k : Int) := ⟨r.toNat, by omega⟩
    rw [Int.toNat_natCast] at v3
    have HZ : Hid (loopsZ g (k : Int) = headsTo g k g.n.toNat) := Lib.hid (by unfold loopsZ; rw [if_pos hc, Int.toNat_natCast])
    have hq : (dcode g (k : Int) != 0) = false := by simpa using hc
    have hb := gBuild_tv g (.slice ca g.es.length cc) k W1 H1.out.1 v1 v3
    unfold GV at hb
    have hn8 : g.n.toNat ≤ 8192 := by have := v1.n1; omega
    have HB := Lib.hid hb
    have HV := Lib.hid (And.intro v1 (And.intro v3 hc))
    clear hb v1 v2 v3 hc
    go_wp2_with fail
    refine HB.out.mono ?_
    rintro e W2 ⟨su, so, sp, vs, rfl, ht, b2⟩
    obtain ⟨n, hn⟩ : ∃ n, n = g.n.toNat := ⟨_, rfl⟩
    have hal := (Below.refl W2.heap.size W2).alloc (Nat.le_refl _) (.cells #[.slice su g.n.toNat g.n.toNat, .slice so g.n.toNat g.n.toNat, .slice sp g.n.toNat g.n.toNat] 56)
    obtain ⟨e0, e1, e2⟩ := box3 W2 (.slice su g.n.toNat g.n.toNat) (.slice so g.n.toNat g.n.toNat) (.slice sp g.n.toNat g.n.toNat) 56
    have hWW := (H1.out.2.1.trans (b2.mono H1.out.2.1.size))
    have hlt := World.block_lt_of_cell? _ _ e0
    dsimp only at hlt
    have hbx := (H1.out.2.2.below b2).below hal
    have HT := Lib.hid (And.intro (ht.below hal) (And.intro (hWW.trans (hal.mono hWW.size)) (And.intro e0 (And.intro e1 (And.intro e2 (And.intro hlt hbx))))))
    rw [← hn] at HT hn8 HZ ⊢
    have HN := Lib.hid hn
    clear ht b2 hal hWW hlt c0 c1 e0 e1 e2 hn hbx
    obtain ⟨c0, c1⟩ := HT.out.2.2.2.2.2.2
    have hgn : g.n = (n : Int) := by have := HV.out.1.n0; have := HN.out; omega
    rw [hgn] at c0
    clear hgn
    go_wp2_with fail
    obtain ⟨bt, hbt⟩ : ∃ bt, bt = W2.heap.size := ⟨_, rfl⟩
    rw [← hbt] at HT ⊢
    clear hbt
    clear c0 c1
    generalize W2.alloc (.cells #[.slice su n n, .slice so n n, .slice sp n n] 56) = W3 at *
    obtain ⟨sp', pc, he, hpm, hpi, hpc, hpb⟩ := HT.out.1.p.1.out1 sRowsG
    have hvl : vs.length = n := by rw [HT.out.1.p.2.1, preF_len, HN.out]
    rw [hvl] at he hpm hpi hpc hpb
    simp only [Value.slice.injEq] at he
    obtain ⟨rfl, -, rfl⟩ := he
    have HP := Lib.hid (And.intro hpi (And.intro hpc (And.intro hpb hvl)))
    clear hpi hpc hpb hvl
    go_loopw [8, 24] (fun lv x wr => ∃ (hd : Nat) (la : Option Addr) (lc : Nat) (es : List LpE) (ls : List (Int × List Int)), hd ≤ n ∧ x = .int .i64 (hd : Int) ∧ lv = .slice la ls.length lc ∧ Hid (LoW W3.heap.size (.slice la ls.length lc) es ls wr ∧ Below W3.heap.size W3 wr ∧ LpsAre g k (headsTo g k hd) ls)) (fun _ x _ => n - (intOf x).toNat)
    case atStart => exact ⟨0, none, 0, [], [], by omega, rfl, rfl, LoW.nil, Below.refl _ _, rfl, fun i hi => by simp [headsTo] at hi⟩
    case round =>
      obtain ⟨hd, la, lc, es, ls, hhd, rfl, rfl, hh⟩ := hrel
      have HL := Lib.hid hh.out
      clear hh
      by_cases hlt : hd < n
      · have hkl : (hd : Int) < (n : Int) := by omega
        have hhn : hd < g.n.toNat := by rw [← HN.out]; exact hlt
        have hrow := HT.out.1.p.2.2 hd (by rw [preF_len]; exact hhn)
        rw [preF_nth hhn] at hrow
        obtain ⟨ra, rc, hrv, hrm, hri, hrc, hrb⟩ := hrow.out1 sIntG
        rw [List.length_map] at hrv hrm hri hrc hrb
        have r2 : wr.cell? ⟨blk sp, ofs sp + hd, none⟩ = some (.slice ra (pre g.es hd).length rc) := by
          rw [HL.out.2.1.cell (p := ⟨blk sp, ofs sp + hd, none⟩) (HP.out.2.2.1 hd hlt), HP.out.2.1 hd hlt, hrv]
        have i2 := HP.out.1 .i64 (hd : Int) (by omega) (by omega)
        rw [Int.toNat_natCast] at i2
        have e2 : wr.cell? ⟨bt, 2, none⟩ = some (.slice sp n n) := by rw [HL.out.2.1.cell (p := ⟨bt, 2, none⟩) HT.out.2.2.2.2.2.1]; exact HT.out.2.2.2.2.1
        have HR := Lib.hid (And.intro hrc hrb)
        have hpl : (pre g.es hd).length ≤ 32768 := Nat.le_trans (pre_len _ _) HV.out.1.len
        clear hrow hrv hrc hrb
        go_wp2_with fail
        obtain ⟨WH, hWH⟩ : ∃ WH, WH = wr := ⟨_, rfl⟩
        rw [← hWH] at HL
        have H0w := Lib.hid (show Below WH.heap.size WH wr by rw [hWH]; exact Below.refl _ _)
        clear hWH e2 r2 i2
        go_loopw [10, 33] (fun sv x wr => ∃ (i : Nat) (sa : Option Addr) (sc : Nat), i ≤ (pre g.es hd).length ∧ x = .int .i64 (i : Int) ∧ sv = .slice sa (startsTo g k hd i).length sc ∧ Hid (OwnI wr WH.heap.size 3 (.slice sa (startsTo g k hd i).length sc) ((startsTo g k hd i).map fun x : Nat => (x : Int)) ∧ Below WH.heap.size WH wr)) (fun _ x _ => (pre g.es hd).length - (intOf x).toNat)
        case atStart => exact ⟨0, none, 0, by omega, rfl, rfl, Go.Dfl.Own.nil _ _ _ _, H0w.out⟩
        case round =>
          obtain ⟨i, sa, sc, hi, rfl, rfl, hh⟩ := hrel
          have HS := Lib.hid hh.out
          have hb3 := HL.out.2.1.trans (hh.out.2.mono HL.out.2.1.size)
          clear hh
          have d0 : wr.cell? ⟨bt, 0, none⟩ = some (.slice su n n) := by rw [hb3.cell (p := ⟨bt, 0, none⟩) HT.out.2.2.2.2.2.1]; exact HT.out.2.2.1
          have d1 : wr.cell? ⟨bt, 1, none⟩ = some (.slice so n n) := by rw [hb3.cell (p := ⟨bt, 1, none⟩) HT.out.2.2.2.2.2.1]; exact HT.out.2.2.2.1
          have d2 : wr.cell? ⟨bt, 2, none⟩ = some (.slice sp n n) := by rw [hb3.cell (p := ⟨bt, 2, none⟩) HT.out.2.2.2.2.2.1]; exact HT.out.2.2.2.2.1
          have H3 := Lib.hid hb3
          have hsl := startsTo_len g k hd i
          clear hb3
          by_cases hit : i < (pre g.es hd).length
          · have hil : (i : Int) < ((pre g.es hd).length : Int) := by omega
            obtain ⟨x, hx⟩ : ∃ x, x = nth (pre g.es hd) i := ⟨_, rfl⟩
            have hxn : x < g.n.toNat := pre_lt HV.out.1 (by rw [hx]; exact nth_mem _ _ hit)
            have r3 : wr.cell? ⟨blk ra, ofs ra + i, none⟩ = some (.int .i64 (x : Int)) := by
              rw [H3.out.cell (p := ⟨blk ra, ofs ra + i, none⟩) (HR.out.2 i hit), HR.out.1 i hit, map_cast_nth0 hit, ← hx]
            have i3 := hri .i64 (i : Int) (by omega) (by omega)
            rw [Int.toNat_natCast] at i3
            have hdm := dominates_any g k (.slice su n n) (.slice so n n) (.slice sp n n) vs (hd : Int) (x : Int) wr (HT.out.1.below H3.out) HV.out.1 HV.out.2.1
            rw [domZ_nat HV.out.1 HV.out.2.1 hhn hxn] at hdm
            have HD := Lib.hid hdm
            have HX := Lib.hid hx
            clear hdm hx hxn
            go_wp2_with fail
            refine HD.out.mono ?_
            rintro e W5 ⟨rfl, b5⟩
            have HS5 := Lib.hid (And.intro (HS.out.1.below b5) (HS.out.2.trans (b5.mono HS.out.2.size)))
            clear b5 d0 d1 d2
            cases hdb : domB g k hd x
            · have HY := Lib.hid (startsTo_no hit (by rw [← HX.out]; exact hdb))
              clear hdb
              go_wp2_with fail
              go_roundw
              case rel => exact ⟨i + 1, sa, sc, by omega, by go_num, by rw [HY.out], by rw [HY.out]; exact HS5.out⟩
              case measure => simp [intOf]; omega
            · have HY := Lib.hid (startsTo_yes hit (by rw [← HX.out]; exact hdb))
              have hsz := HS5.out.2.size
              have hll : ((startsTo g k hd i).map fun x : Nat => (x : Int)).length < 17592186044416 := by rw [List.length_map]; omega
              clear hdb
              go_wp2_with (at_builtin; refine wp_append1at (f := Value.int .i64) sIntG rfl _ rfl _ _ rfl WH.heap.size _ ((startsTo g k hd i).map fun x : Nat => (x : Int)) rfl (HS5.out.1.alloc _) (x : Int) ⟨W5.heap.size, 0, none⟩ rfl (cell_alloc1 _ _ _) rfl hll (by omega) (le_alloc _ hsz) ?_; intro v' w3 hown hgr hat; obtain ⟨s9, c9, rfl⟩ := hown.shape (n := (startsTo g k hd i).length + 1) (by rw [List.length_append, List.length_map]; rfl); have HO := Lib.hid (And.intro hown ((HS5.out.2.alloc hsz _).grown hgr (by rw [World.size_alloc]; omega) (fun q e => (HS5.out.1.lt q e).1))); clear hown hgr hat)
              go_roundw
              case rel => exact ⟨i + 1, s9, c9, by omega, by go_num, by rw [HY.out, ← HX.out, List.length_append]; rfl, by rw [HY.out, ← HX.out, List.length_append, List.map_append]; exact HO.out⟩
              case measure => simp [intOf]; omega
          · obtain rfl : i = (pre g.es hd).length := by omega
            have hsa := startsTo_all g k hd
            obtain ⟨st, hst⟩ : ∃ st, st = startsTo g k hd (pre g.es hd).length := ⟨_, rfl⟩
            rw [← hst] at HS hsl ⊢
            rw [← hst] at hsa
            have hhl := headsTo_len g k hd
            by_cases hemp : startsN g k hd = []
            · have hl0 : st.length = 0 := by rw [hsa, hemp]; rfl
              have HY := Lib.hid (headsTo_no hemp)
              clear hst hsa hemp
              rw [hl0]
              go_wp2_with fail
              go_roundw
              case rel => exact ⟨hd + 1, la, lc, es, ls, by omega, by go_num, rfl, HL.out.1.below HS.out.2, H3.out, by rw [HY.out]; exact HL.out.2.2⟩
              case measure => simp [intOf]; omega
            · have hl0 : (0 : Int) < (st.length : Int) := by
                have : st.length ≠ 0 := fun e => hemp (by rw [← hsa]; exact List.eq_nil_of_length_eq_zero e)
                omega
              have hq0 : decide ((st.length : Int) > 0) = true := decide_eq_true hl0
              have HY := Lib.hid (And.intro (headsTo_yes hemp) hsa)
              have hbd := body_any g k hd (.slice su n n) (.slice so n n) (.slice sp n n) (.slice sa st.length sc) vs st wr (HT.out.1.below H3.out) HS.out.1.lst HV.out.1 HV.out.2.1 hhn (fun x hx => by
                rw [hsa] at hx
                exact pre_lt HV.out.1 (List.mem_filter.1 hx).1)
              have HB5 := Lib.hid hbd
              clear hst hsa hemp hbd
              go_wp2_with fail
              refine HB5.out.mono ?_
              rintro e W5 ⟨a5, c5, o5, rfl, q1, q2, b5⟩
              obtain ⟨M, hM⟩ : ∃ M, M = memL hd o5 g.n.toNat := ⟨_, rfl⟩
              rw [← hM] at q1 ⊢
              have hlpn := memL_lpn (o := o5) (h := hd) (g := g) (r := k) (fun v => by rw [← HY.out.2]; exact q2 v)
              rw [← hM] at hlpn
              have hlo := (HL.out.1.below HS.out.2).below b5
              have hb35 := H3.out.trans (b5.mono H3.out.size)
              have hsz := hb35.size
              have hel := hlo.len
              have hlsl : ls.length ≤ hd := by rw [HL.out.2.2.1]; exact hhl
              have hlb : ∀ q, (Value.slice a5 M.length c5).ownBlock = some q → (Value.slice la ls.length lc).ownBlock ≠ some q := fun q e e2 => by
                have h9 := (q1.lt q e).1
                have h10 := ((HL.out.1.below HS.out.2).out.lt q e2).2
                omega
              have hr5 := q1.mono H3.out.size
              have HQ := Lib.hid (And.intro hlo (And.intro hb35 (And.intro hlpn (And.intro hlb (And.intro hr5 hel)))))
              have hgr5 := grownBy_alloc W5 (.cells #[.int .i64 (hd : Int), .slice a5 M.length c5] 33)
              have hlo2 := hlo.out.grown hgr5 (by cases (Value.slice la ls.length lc).ownBlock <;> simp)
              have HLO := Lib.hid hlo2
              have hlen1 : (es.length + 1) * 32 ≤ 140737488355328 := by omega
              have hlen2 : es.length + 1 ≤ 1000000000000 := by omega
              clear q1 q2 b5 hM hlpn hlo hb35 hel hlb hr5 hgr5 hlo2 hhl HB5
              go_wp2_with (at_builtin; refine wp_appendE (E := ELp) sLoopG rfl rfl _ _ rfl (v := .slice la ls.length lc) (l := es) (base := W3.heap.size) rfl W5.heap.size rfl HLO.out (⟨(hd : Int), a5, M.length, c5⟩ : LpE) (cells_new (W := W5) (cs := [.int .i64 (hd : Int), .slice a5 M.length c5]) (t := 33) rfl) hlen1 hlen2 (le_alloc _ hsz) ?_; intro v' w3 hown hgr hat; obtain ⟨s9, c9, rfl⟩ := hown.shape (n := ls.length + 1) (by rw [List.length_append, List.length_singleton, HQ.out.2.2.2.2.2]); have HO := Lib.hid (And.intro hown (And.intro hgr hat)); clear hown hgr hat)
              have hgA := grownBy_alloc W5 (.cells #[.int .i64 (hd : Int), .slice a5 M.length c5] 33)
              have hbA := (Below.refl W5.heap.size W5).alloc (Nat.le_refl _) (.cells #[.int .i64 (hd : Int), .slice a5 M.length c5] 33)
              have hpush := (HQ.out.1.below hbA).push HO.out.1 HO.out.2.1 HO.out.2.2 (HQ.out.2.2.2.2.1.below hbA) HQ.out.2.2.2.1
              have hbl := (HQ.out.2.1.alloc hsz (.cells #[.int .i64 (hd : Int), .slice a5 M.length c5] 33)).grown HO.out.2.1 (by rw [World.size_alloc]; omega) (fun q e => (HQ.out.1.out.lt q e).1)
              have HP2 := Lib.hid (And.intro hpush hbl)
              clear hgA hbA hpush hbl
              go_roundw
              case rel => exact ⟨hd + 1, s9, c9, es ++ [(⟨(hd : Int), a5, M.length, c5⟩ : LpE)], ls ++ [((hd : Int), M.map fun x : Nat => (x : Int))], by omega, by go_num, by rw [List.length_append]; rfl, by rw [List.length_append]; exact HP2.out.1, HP2.out.2, by rw [HY.out.1]; exact HL.out.2.2.snoc HQ.out.2.2.1⟩
              case measure => simp [intOf]; omega
      · obtain rfl : n = hd := by omega
        go_wp2_with fail
        go_ret2
        refine ⟨la, lc, ls, by rw [HV.out.2.2]; rfl, HL.out.1.view, by rw [HZ.out, Int.toNat_natCast]; exact HL.out.2.2, HT.out.2.1.trans (HL.out.2.1.mono (by have := HT.out.2.1.size; omega))⟩
  · have HZ : Hid (loopsZ g r = []) := Lib.hid (by unfold loopsZ; rw [if_neg hc])
    have hq : (dcode g r != 0) = true := by simpa using hc
    clear hc
    go_wp2_with fail
    go_ret2
    exact ⟨none, 0, [], rfl, LoW.nil.view (B := W1.heap.size), by rw [HZ.out]; exact ⟨rfl, fun i hi => by simp at hi⟩, H1.out.2.1⟩
end Go.Proofs.Ytlijimdkadobmaa
