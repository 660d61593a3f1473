/- Contracts of Idom and Dominates. -/
import Derived.Test.YtlijimdkadobmaaDnf
namespace Go.Gra
def idomZ (g : G) (r : Int) : List Int := if dcode g r = 0 then idomL g r.toNat else []
def domD (g : G) (r a b : Int) : Bool := decide (dcode g r = 0) && domZ g r.toNat a b
/-- The climb from x: l has been met, z comes next. -/
structure ChP (g : G) (k x : Nat) (l : List Nat) (z : Int) : Prop where
  all : ∀ y, (y ∈ l ∨ ∃ c : Nat, z = (c : Int) ∧ Go.Dm.Dom (dmC g k) c y) ↔ (Go.Dm.Dom (dmC g k) x y ∧ y ≠ x)
  at' : z = -1 ∨ ∃ c : Nat, z = (c : Int) ∧ c ∈ postL g k ∧ l.length ≤ (postL g k).idxOf c
theorem Idm.up {g : G} {k : Nat} {uf : List Int} (h : Idm g k uf) (hvg : VG g) (hk : k < g.n.toNat) {c : Nat} (hc : c ∈ postL g k) : (Go.Dfl.nth uf c = -1 ∧ ∀ y, Go.Dm.Dom (dmC g k) c y ↔ y = c) ∨ ∃ w : Nat, Go.Dfl.nth uf c = (w : Int) ∧ w ∈ postL g k ∧ (postL g k).idxOf c < (postL g k).idxOf w ∧ ∀ y, Go.Dm.Dom (dmC g k) w y ↔ Go.Dm.Dom (dmC g k) c y ∧ y ≠ c := by
  by_cases e : c = k
  · refine .inl ⟨h.no c (post_lt hvg hk hc) (.inr e), fun y => ⟨fun hd => ?_, fun hy => by rw [hy]; exact Go.Dm.Dom.refl hc⟩⟩
    subst e
    exact Go.Dm.dom_root (C := dmC g c) hd
  · exact .inr (h.yes c hc e)
theorem ChP.start {g : G} {k x : Nat} {uf : List Int} (h : Idm g k uf) (hvg : VG g) (hk : k < g.n.toNat) (hx : x ∈ postL g k) : ChP g k x [] (Go.Dfl.nth uf x) := by
  rcases h.up hvg hk hx with ⟨h1, h2⟩ | ⟨w, h1, h2, h3, h4⟩
  · rw [h1]
    refine ⟨fun y => ⟨fun hy => ?_, fun hy => absurd ((h2 y).1 hy.1) hy.2⟩, .inl rfl⟩
    rcases hy with hy | ⟨c, hc, -⟩
    · cases hy
    · omega
  · rw [h1]
    refine ⟨fun y => ⟨fun hy => ?_, fun hy => .inr ⟨w, rfl, (h4 y).2 hy⟩⟩, .inr ⟨w, rfl, h2, Nat.zero_le _⟩⟩
    rcases hy with hy | ⟨c, hc, hd⟩
    · cases hy
    · obtain rfl : w = c := by omega
      exact (h4 y).1 hd
theorem ChP.step {g : G} {k x c : Nat} {l : List Nat} {uf : List Int} (h : ChP g k x l (c : Int)) (hi : Idm g k uf) (hvg : VG g) (hk : k < g.n.toNat) : c ∈ postL g k ∧ ChP g k x (l ++ [c]) (Go.Dfl.nth uf c) ∧ (Go.Dfl.nth uf c = -1 ∨ ∃ w : Nat, Go.Dfl.nth uf c = (w : Int) ∧ w ∈ postL g k ∧ (postL g k).idxOf c < (postL g k).idxOf w) := by
  rcases h.at' with h1 | ⟨c', h1, hc, hl⟩
  · omega
  obtain rfl : c = c' := by omega
  refine ⟨hc, ?_⟩
  have hall : ∀ y, (y ∈ l ∨ Go.Dm.Dom (dmC g k) c y) ↔ (Go.Dm.Dom (dmC g k) x y ∧ y ≠ x) := fun y => by
    rw [← h.all y]
    refine or_congr Iff.rfl ⟨fun hd => ⟨c, rfl, hd⟩, fun ⟨c', e, hd⟩ => ?_⟩
    obtain rfl : c = c' := by omega
    exact hd
  rcases hi.up hvg hk hc with ⟨h1, h2⟩ | ⟨w, h1, h2, h3, h4⟩
  · rw [h1]
    refine ⟨⟨fun y => ?_, .inl rfl⟩, .inl rfl⟩
    rw [← hall y, List.mem_append, List.mem_singleton, h2 y]
    exact ⟨fun hy => hy.elim id fun ⟨c', e, _⟩ => by omega, .inl⟩
  · rw [h1]
    refine ⟨⟨fun y => ?_, .inr ⟨w, rfl, h2, by rw [List.length_append, List.length_singleton]; omega⟩⟩, .inr ⟨w, rfl, h2, h3⟩⟩
    rw [← hall y, List.mem_append, List.mem_singleton]
    constructor
    · rintro ((hy | rfl) | ⟨c', e, hd⟩)
      · exact .inl hy
      · exact .inr (Go.Dm.Dom.refl hc)
      · obtain rfl : w = c' := by omega
        exact .inr ((h4 y).1 hd).1
    · rintro (hy | hd)
      · exact .inl (.inl hy)
      · by_cases e : y = c
        · exact .inl (.inr e)
        · exact .inr ⟨w, rfl, (h4 y).2 ⟨hd, e⟩⟩
end Go.Gra
namespace Go.Proofs.Ytlijimdkadobmaa
open Go.RowKit Go.Dfl Go.Gra
theorem field_up (x y z : Value) (w : World) : (Instr.field 56 (.agg #[x, y, z]) 0).run Try.prog w = .ok x w := by kernel_rfl
def IdomR (g : G) (r : Int) (W : World) (e : Ending) (W' : World) : Prop := ∃ a c, e = .returned (.tuple #[.slice a (idomZ g r).length c, .int .i64 (dcode g r)]) ∧ Ints W' (.slice a (idomZ g r).length c) (idomZ g r) ∧ Below W.heap.size W W' ∧ (dcode g r = 0 → Idm g r.toNat (idomL g r.toNat))
set_option maxHeartbeats 800000 in
set_option maxRecDepth 100000 in
theorem dIdom_any (g : G) (cv : Value) (r : Int) (W : World) (h : Pairs W cv g.es) : Calls Try.prog 23 #[GV g cv, .int .i64 r] W (IdomR g r W) := by
  obtain ⟨ca, cc, rfl, -, -, -⟩ := pairs_rd h
  have hal := (Below.refl W.heap.size W).alloc (Nat.le_refl _) (.cells #[.int .i64 g.n, .slice ca g.es.length cc] 24)
  have H0 := Lib.hid (And.intro (h.below hal) (And.intro hal (BoxG.new W g.n (.slice ca g.es.length cc) 24)))
  clear h hal
  unfold GV
  go_enter Try.func23, Try.ntmps23
  go_wp2_with fail
  have hck := dcheck_any g (.slice ca g.es.length cc) r _ H0.out.1
  unfold GV at hck
  refine hck.mono ?_
  rintro e W1 ⟨rfl, r1⟩
  have H1 := Lib.hid (And.intro (H0.out.1.below r1) (And.intro (H0.out.2.1.trans (r1.mono H0.out.2.1.size)) (H0.out.2.2.below r1)))
  clear r1 hck
  obtain ⟨c0, c1⟩ := H1.out.2.2
  by_cases hc : dcode g r = 0
  · have HZ : Hid (idomZ g r = idomL g r.toNat) := Lib.hid (by unfold idomZ; rw [if_pos hc])
    obtain ⟨v1, v2, v3⟩ := dcode_ok hc
    obtain ⟨k, rfl⟩ : ∃ k : Nat, r = (k : Int) := ⟨r.toNat, by omega⟩
    rw [Int.toNat_natCast] at v3
    have hq : (dcode g (k : Int) != 0) = false := by simpa using hc
    have hb := gBuild_tv g (.slice ca g.es.length cc) k W1 H1.out.1 v1 v3
    unfold GV at hb
    have HB := Lib.hid hb
    have HCC := Lib.hid hc
    clear hb v1 v2 v3 hc
    have hfld := field_up
    go_wp2_with fail
    refine HB.out.mono ?_
    rintro e W2 ⟨ua, so, sp, vs, rfl, ht, b2⟩
    have hu := ht.u
    have HT := Lib.hid (And.intro hu (And.intro (H1.out.2.1.trans (b2.mono H1.out.2.1.size)) ht.idm))
    clear ht b2 hu
    go_wp2_with fail
    go_ret2
    refine ⟨ua, g.n.toNat, ?_, ?_, HT.out.2.1, fun _ => by rw [Int.toNat_natCast]; exact HT.out.2.2⟩
    · rw [HZ.out, HCC.out, Int.toNat_natCast, idomL_len]; rfl
    · rw [HZ.out, Int.toNat_natCast, idomL_len]; exact HT.out.1
  · have HZ : Hid (idomZ g r = []) := Lib.hid (by unfold idomZ; rw [if_neg hc])
    have HZC := Lib.hid hc
    have hq : (dcode g r != 0) = true := by simpa using hc
    clear hc
    go_wp2_with fail
    go_ret2
    refine ⟨none, 0, ?_, ?_, H1.out.2.1, fun h => absurd h HZC.out⟩
    · rw [HZ.out]; rfl
    · rw [HZ.out]; exact Lst.nil _ _
set_option maxHeartbeats 800000 in
set_option maxRecDepth 100000 in
theorem dDominates_any (g : G) (cv : Value) (r a b : Int) (W : World) (h : Pairs W cv g.es) : Calls Try.prog 13 #[GV g cv, .int .i64 r, .int .i64 a, .int .i64 b] W (BoolR (domD g r a b) W) := by
  obtain ⟨ca, cc, rfl, -, -, -⟩ := pairs_rd h
  have hal := (Below.refl W.heap.size W).alloc (Nat.le_refl _) (.cells #[.int .i64 g.n, .slice ca g.es.length cc] 24)
  have H0 := Lib.hid (And.intro (h.below hal) (And.intro hal (BoxG.new W g.n (.slice ca g.es.length cc) 24)))
  clear h hal
  unfold GV
  go_enter Try.func13, Try.ntmps13
  go_wp2_with fail
  have hck := dcheck_any g (.slice ca g.es.length cc) r _ H0.out.1
  unfold GV at hck
  refine hck.mono ?_
  rintro e W1 ⟨rfl, r1⟩
  have H1 := Lib.hid (And.intro (H0.out.1.below r1) (And.intro (H0.out.2.1.trans (r1.mono H0.out.2.1.size)) (H0.out.2.2.below r1)))
  clear r1 hck
  obtain ⟨c0, c1⟩ := H1.out.2.2
  by_cases hc : dcode g r = 0
  · have HZ : Hid (domD g r a b = domZ g r.toNat a b) := Lib.hid (by unfold domD; rw [decide_eq_true hc]; rfl)
    obtain ⟨v1, v2, v3⟩ := dcode_ok hc
    obtain ⟨k, rfl⟩ : ∃ k : Nat, r = (k : Int) := ⟨r.toNat, by omega⟩
    rw [Int.toNat_natCast] at v3
    have hq : (dcode g (k : Int) == 0) = true := by simpa using hc
    have hb := gBuild_tv g (.slice ca g.es.length cc) k W1 H1.out.1 v1 v3
    unfold GV at hb
    have HB := Lib.hid hb
    have HV := Lib.hid (And.intro v1 v3)
    clear hb v1 v2 v3 hc
    go_wp2_with fail
    refine HB.out.mono ?_
    rintro e W2 ⟨su, so, sp, vs, rfl, ht, b2⟩
    have HT := Lib.hid (And.intro ht (H1.out.2.1.trans (b2.mono H1.out.2.1.size)))
    clear ht b2
    go_wp2_with fail
    refine (dominates_any g k _ _ _ vs a b W2 HT.out.1 HV.out.1 HV.out.2).mono ?_
    rintro e W3 ⟨rfl, b3⟩
    have HT2 := Lib.hid (HT.out.2.trans (b3.mono HT.out.2.size))
    clear b3
    go_wp2_with fail
    go_ret
    exact ⟨by rw [HZ.out, Int.toNat_natCast]; rfl, HT2.out⟩
  · have HZ : Hid (domD g r a b = false) := Lib.hid (by unfold domD; rw [decide_eq_false hc]; rfl)
    have hq : (dcode g r == 0) = false := by simpa using hc
    clear hc
    go_wp2_with fail
    go_ret
    exact ⟨by rw [HZ.out]; rfl, H1.out.2.1⟩
/-- What Strict hands back: the strict dominators, ascending. -/
def StrP (g : G) (r v : Int) (L : List Int) : Prop := L.Pairwise (· < ·) ∧ ∀ y : Int, y ∈ L ↔ domD g r y v = true ∧ y ≠ v
theorem StrP.unique {g : G} {r v : Int} {L M : List Int} (h : StrP g r v L) (k : StrP g r v M) : L = M := asc_uniq h.1 k.1 fun y => (h.2 y).trans (k.2 y).symm
def StrictR (g : G) (r v : Int) (W : World) (e : Ending) (W' : World) : Prop := ∃ a c L, e = .returned (.slice a L.length c) ∧ Ints W' (.slice a L.length c) L ∧ Below W.heap.size W W' ∧ StrP g r v L
theorem domD_iff {g : G} {k : Nat} {y v : Int} (hvg : VG g) (hk : k < g.n.toNat) (hc : dcode g (k : Int) = 0) : domD g (k : Int) y v = true ↔ ∃ a b : Nat, y = (a : Int) ∧ v = (b : Int) ∧ Go.Dm.Dom (dmC g k) b a := by
  unfold domD domZ reachB
  rw [decide_eq_true hc, Int.toNat_natCast]
  simp only [Bool.true_and, Bool.and_eq_true, decide_eq_true_eq]
  constructor
  · rintro ⟨⟨⟨h1, h2⟩, h3, h4⟩, h5⟩
    have hb := post_lt hvg hk h4
    exact ⟨y.toNat, v.toNat, by have := (nodeB_iff.1 h1).1; omega, by have := (nodeB_iff.1 h3).1; omega, (domB_iff hvg hk hb).1 h5⟩
  · rintro ⟨a, b, rfl, rfl, hd⟩
    obtain ⟨d1, d2⟩ := dom_lt hvg hk hd
    rw [Int.toNat_natCast, Int.toNat_natCast]
    exact ⟨⟨⟨nodeB_nat d1, dom_mem (dmC_ok hvg hk) hd⟩, nodeB_nat d2, hd.1⟩, (domB_iff hvg hk d2).2 hd⟩
set_option maxHeartbeats 1600000 in
set_option maxRecDepth 100000 in
theorem dStrict_any (g : G) (cv : Value) (r v : Int) (W : World) (h : Pairs W cv g.es) : Calls Try.prog 27 #[GV g cv, .int .i64 r, .int .i64 v] W (StrictR g r v W) := by
  obtain ⟨ca, cc, rfl, -, -, -⟩ := pairs_rd h
  have hal := (Below.refl W.heap.size W).alloc (Nat.le_refl _) (.cells #[.int .i64 g.n, .slice ca g.es.length cc] 24)
  have H0 := Lib.hid (And.intro (h.below hal) (And.intro hal (BoxG.new W g.n (.slice ca g.es.length cc) 24)))
  clear h hal
  unfold GV
  go_enter Try.func27, Try.ntmps27
  go_wp2_with fail
  have hck := dcheck_any g (.slice ca g.es.length cc) r _ H0.out.1
  unfold GV at hck
  refine hck.mono ?_
  rintro e W1 ⟨rfl, r1⟩
  have H1 := Lib.hid (And.intro (H0.out.1.below r1) (And.intro (H0.out.2.1.trans (r1.mono H0.out.2.1.size)) (H0.out.2.2.below r1)))
  clear r1 hck
  obtain ⟨c0, c1⟩ := H1.out.2.2
  by_cases hc : dcode g r = 0
  · obtain ⟨v1, v2, v3⟩ := dcode_ok hc
    obtain ⟨k, rfl⟩ : ∃ k : Nat, r = (k : Int) := ⟨r.toNat, by omega⟩
    rw [Int.toNat_natCast] at v3
    have hq : (dcode g (k : Int) != 0) = false := by simpa using hc
    have hb := gBuild_tv g (.slice ca g.es.length cc) k W1 H1.out.1 v1 v3
    unfold GV at hb
    have HB := Lib.hid hb
    have HV := Lib.hid (And.intro v1 (And.intro v3 hc))
    clear hb v1 v2 v3 hc
    go_wp2_with fail
    refine HB.out.mono ?_
    rintro e W2 ⟨su, so, sp, vs, rfl, ht, b2⟩
    have hal := (Below.refl W2.heap.size W2).alloc (Nat.le_refl _) (.cells #[.slice su g.n.toNat g.n.toNat, .slice so g.n.toNat g.n.toNat, .slice sp g.n.toNat g.n.toNat] 56)
    obtain ⟨e0, e1, e2⟩ := box3 W2 (.slice su g.n.toNat g.n.toNat) (.slice so g.n.toNat g.n.toNat) (.slice sp g.n.toNat g.n.toNat) 56
    have hWW := (H1.out.2.1.trans (b2.mono H1.out.2.1.size))
    have hlt := World.block_lt_of_cell? _ _ e0
    dsimp only at hlt
    have HT := Lib.hid (And.intro (ht.below hal) (And.intro (hWW.trans (hal.mono hWW.size)) (And.intro e0 (And.intro e1 (And.intro e2 hlt)))))
    clear ht b2 hal hWW hlt c0 c1 e0 e1 e2
    go_wp2_with fail
    obtain ⟨bt, hbt⟩ : ∃ bt, bt = W2.heap.size := ⟨_, rfl⟩
    rw [← hbt] at HT ⊢
    clear hbt
    generalize W2.alloc (.cells #[.slice su g.n.toNat g.n.toNat, .slice so g.n.toNat g.n.toNat, .slice sp g.n.toNat g.n.toNat] 56) = W3 at *
    refine (reachable_any g k _ _ _ vs v W3 HT.out.1).mono ?_
    rintro e W4 ⟨rfl, b4⟩
    have HT4 := Lib.hid (And.intro (HT.out.1.below b4) (HT.out.2.1.trans (b4.mono HT.out.2.1.size)))
    have d0 : W4.cell? ⟨bt, 0, none⟩ = some (.slice su g.n.toNat g.n.toNat) := by rw [b4.cell (p := ⟨bt, 0, none⟩) HT.out.2.2.2.2.2]; exact HT.out.2.2.1
    have hltb : bt < W4.heap.size := World.block_lt_of_cell? W4 ⟨bt, 0, none⟩ d0
    clear b4
    cases hrv : reachB g k v
    · have HE : Hid (StrP g (k : Int) v []) := Lib.hid ⟨List.Pairwise.nil, fun y => by
        unfold domD domZ
        rw [Int.toNat_natCast, hrv]
        simp⟩
      clear hrv
      go_wp2_with fail
      go_ret
      exact ⟨none, 0, [], rfl, Lst.nil _ _, HT4.out.2, HE.out⟩
    · have hrv' := hrv
      unfold reachB at hrv'
      rw [Bool.and_eq_true, decide_eq_true_eq] at hrv'
      obtain ⟨x, rfl⟩ : ∃ x : Nat, v = (x : Int) := ⟨v.toNat, by have := (nodeB_iff.1 hrv'.1).1; omega⟩
      have hx := hrv'.2
      rw [Int.toNat_natCast] at hx
      have hxn := post_lt HV.out.1 HV.out.2.1 hx
      obtain ⟨su', uc, he, hum, hui, huc, hub⟩ := HT4.out.1.u.out1 sIntG
      rw [idomL_len] at he hum hui huc hub
      simp only [Value.slice.injEq] at he
      obtain ⟨rfl, -, rfl⟩ := he
      have r1 := huc x hxn
      have i1 := hui .i64 (x : Int) (by omega) (by omega)
      rw [Int.toNat_natCast] at i1
      have HI := Lib.hid (And.intro hui (And.intro huc (And.intro hub (And.intro hx (And.intro hxn (And.intro d0 hltb))))))
      have hn8 : g.n.toNat ≤ 8192 := by have := HV.out.1.n1; omega
      obtain ⟨z0, hz0⟩ : ∃ z0, z0 = nth (idomL g k) x := ⟨_, rfl⟩
      rw [← hz0] at r1
      have HZ := Lib.hid hz0
      clear hui huc hub hx hxn hrv hrv' hz0 hltb
      go_wp2_with fail
      have hcs := ChP.start HT4.out.1.idm HV.out.1 HV.out.2.1 HI.out.2.2.2.1
      rw [← HZ.out] at hcs
      have HCS := Lib.hid hcs
      clear hcs
      go_loopw [8, 9] (fun lv y wr => ∃ (z : Int) (l : List Nat) (sa : Option Addr) (sc : Nat), y = .int .i64 z ∧ lv = .slice sa l.length sc ∧ Hid (OwnI wr W4.heap.size 3 (.slice sa l.length sc) (l.map fun x : Nat => (x : Int)) ∧ Below W4.heap.size W4 wr ∧ ChP g k x l z)) (fun _ y _ => if intOf y < 0 then 0 else (postL g k).length - (postL g k).idxOf (intOf y).toNat)
      case atStart => exact ⟨z0, [], none, 0, rfl, rfl, Go.Dfl.Own.nil _ _ _ _, Below.refl _ _, HCS.out⟩
      case round =>
        obtain ⟨z, l, sa, sc, rfl, rfl, hh⟩ := hrel
        have HH := Lib.hid hh.out
        obtain ⟨h1, h2, h3⟩ := hh.out
        obtain ⟨hui, huc, hub, hx, hxn, hd0, hltb⟩ := HI.out
        by_cases hz : z < 0
        · have q1 : decide (z ≥ 0) = false := decide_eq_false (by omega)
          have hof := Of_any _ _ wr h1.lst
          have hval : (l.map fun x : Nat => (x : Int)).all valB = true := by
            rw [List.all_eq_true]
            intro y hy
            obtain ⟨c, hc, rfl⟩ := List.mem_map.1 hy
            have hd := ((h3.all c).1 (.inl hc)).1
            have h9 := (dom_lt HV.out.1 HV.out.2.1 hd).1
            simp [valB]; omega
          have HOF := Lib.hid hof
          have HVL := Lib.hid hval
          have HZN := Lib.hid hz
          clear hui huc hub hx hxn hd0 hltb hh h1 h2 h3 hof hval hz
          go_wp2_with (go_at_call 40; refine HOF.out.mono ?_; rintro e w4 (⟨q0', -⟩ | ⟨-, v4, r4, rfl, q1, q2, q3, q4, q5, q6⟩); (rw [HVL.out] at q0'; cases q0'); have HF := Lib.hid (And.intro q1 (And.intro q2 (And.intro q4 (And.intro q5 q6)))); clear q1 q2 q3 q4 q5 q6)
          refine (List_any _ r4 w4 HF.out.1.1 HF.out.2.1 (by have := HF.out.2.2.1; omega)).mono ?_
          rintro e w5 ⟨v5, rfl, s1, s2⟩
          obtain ⟨a5, c5, rfl⟩ := s1.shape (n := (els r4).length) rfl
          have HG := Lib.hid (And.intro s1 s2)
          clear s1 s2
          go_wp2_with fail
          go_ret
          have hf5 := HF.out
          have hbe : Below W.heap.size W w5 := (HT4.out.2.trans (HH.out.2.1.mono HT4.out.2.size)).trans ((hf5.2.2.2.2.trans (HG.out.2.mono hf5.2.2.2.2.size)).mono (by have := HH.out.2.1.size; have := HT4.out.2.size; omega))
          refine ⟨a5, c5, els r4, rfl, HG.out.1.lst, hbe, els_asc r4, fun y => ?_⟩
          rw [mem_els, domD_iff HV.out.1 HV.out.2.1 HV.out.2.2]
          constructor
          · rintro ⟨m, rfl, hm⟩
            rw [hf5.2.2.2.1, decide_eq_true_eq, List.mem_map] at hm
            obtain ⟨c, hc, e⟩ := hm
            obtain rfl : c = m := by omega
            have hd := (HH.out.2.2.all c).1 (.inl hc)
            exact ⟨⟨c, x, rfl, rfl, hd.1⟩, fun e => hd.2 (by omega)⟩
          · rintro ⟨⟨a, b, rfl, e, hd⟩, hy⟩
            obtain rfl : x = b := by omega
            refine ⟨a, rfl, ?_⟩
            rw [hf5.2.2.2.1, decide_eq_true_eq, List.mem_map]
            rcases (HH.out.2.2.all a).2 ⟨hd, fun e => hy (by omega)⟩ with h9 | ⟨c, e9, -⟩
            · exact ⟨a, h9, rfl⟩
            · have := HZN.out; omega
        · have q1 : decide (z ≥ 0) = true := decide_eq_true (by omega)
          obtain ⟨c, rfl⟩ : ∃ c : Nat, z = (c : Int) := ⟨z.toNat, by omega⟩
          obtain ⟨hc, hch, hnx⟩ := h3.step HT4.out.1.idm HV.out.1 HV.out.2.1
          have hcn := post_lt HV.out.1 HV.out.2.1 hc
          have hl8 : l.length ≤ 8192 := by
            rcases h3.at' with e | ⟨c', e, -, hle⟩
            · omega
            · have h9 := dmC_last HV.out.1 HV.out.2.1
              obtain rfl : c = c' := by omega
              have h10 := List.idxOf_lt_length_of_mem hc
              omega
          have i3 := hui .i64 (c : Int) (by omega) (by omega)
          rw [Int.toNat_natCast] at i3
          obtain ⟨z', hz'⟩ : ∃ z', z' = nth (idomL g k) c := ⟨_, rfl⟩
          have hcc := huc c hcn
          rw [← hz'] at hcc hch hnx
          have hbk := hub c hcn
          have hsz := h2.size
          have HR := Lib.hid (And.intro hch (And.intro hnx (And.intro hc (And.intro hcc (And.intro hbk (And.intro hd0 hltb))))))
          have HX := Lib.hid h1
          clear hui huc hub hx hxn hd0 hltb hh h1 h2 h3 hc hch hnx hcn hz' hcc hbk hz
          go_wp2_with (at_builtin; refine wp_append1at (f := Value.int .i64) sIntG rfl _ rfl _ _ rfl W4.heap.size _ (l.map fun x : Nat => (x : Int)) rfl (HX.out.alloc _) (c : Int) ⟨wr.heap.size, 0, none⟩ rfl (cell_alloc1 _ _ _) rfl (by rw [List.length_map]; omega) (by omega) (le_alloc _ hsz) ?_; intro v' w3 hown hgr hat; obtain ⟨s9, c9, rfl⟩ := hown.shape (n := l.length + 1) (by rw [List.length_append, List.length_map]; rfl); have hb9 : Below W4.heap.size W4 w3 := (HH.out.2.1.alloc hsz _).grown hgr (by rw [World.size_alloc]; omega) (fun q e => (HX.out.lt q e).1); have d9 : w3.cell? ⟨bt, 0, none⟩ = some (.slice su g.n.toNat g.n.toNat) := (by rw [hb9.cell (p := ⟨bt, 0, none⟩) HR.out.2.2.2.2.2.2]; exact HR.out.2.2.2.2.2.1); have r9 : w3.cell? ⟨blk su, ofs su + c, none⟩ = some (.int .i64 z') := (by rw [hb9.cell (p := ⟨blk su, ofs su + c, none⟩) HR.out.2.2.2.2.1]; exact HR.out.2.2.2.1); have HO := Lib.hid (And.intro hown hb9); clear hown hgr hat hb9)
          go_roundw
          case rel => exact ⟨z', l ++ [c], s9, c9, rfl, by simp, by rw [List.length_append, List.map_append]; exact HO.out.1, HO.out.2, HR.out.1⟩
          case measure =>
            have h9 := List.idxOf_lt_length_of_mem HR.out.2.2.1
            rcases HR.out.2.1 with rfl | ⟨w, rfl, w1, w2⟩
            · show (if (-1 : Int) < 0 then 0 else (postL g k).length - (postL g k).idxOf (-1 : Int).toNat) < if (c : Int) < 0 then 0 else (postL g k).length - (postL g k).idxOf (c : Int).toNat
              rw [if_pos (by omega), if_neg (by omega), Int.toNat_natCast]; omega
            · have h10 := List.idxOf_lt_length_of_mem w1
              show (if (w : Int) < 0 then 0 else (postL g k).length - (postL g k).idxOf (w : Int).toNat) < if (c : Int) < 0 then 0 else (postL g k).length - (postL g k).idxOf (c : Int).toNat
              rw [if_neg (by omega), if_neg (by omega), Int.toNat_natCast, Int.toNat_natCast]; omega
  · have HZ : Hid (StrP g r v []) := Lib.hid ⟨List.Pairwise.nil, fun y => by unfold domD; rw [decide_eq_false hc]; simp⟩
    have hq : (dcode g r != 0) = true := by simpa using hc
    clear hc
    go_wp2_with fail
    go_ret
    exact ⟨none, 0, [], rfl, Lst.nil _ _, H1.out.2.1, HZ.out⟩
end Go.Proofs.Ytlijimdkadobmaa
