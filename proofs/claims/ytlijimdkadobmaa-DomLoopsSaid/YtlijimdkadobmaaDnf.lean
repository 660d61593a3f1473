/- Contracts of check, reachable, dominates. -/
import Derived.Test.YtlijimdkadobmaaDne
namespace Go.Gra
open Go.Dfl (nth nth_mem mem_nth nth_eq nth_ext nth_set)
open Go.Dm (Cx Av Dom Anc Pr UpOk)
def dcode (g : G) (r : Int) : Int := if gCode g ≠ 0 then gCode g else if nodeB g.n r then 0 else 4
theorem dcode_ok {g : G} {r : Int} (h : dcode g r = 0) : VG g ∧ 0 ≤ r ∧ r.toNat < g.n.toNat := by
  unfold dcode at h
  split at h
  · rename_i hn; exact absurd h hn
  · rename_i hn
    split at h
    · rename_i hb
      have h1 := nodeB_iff.1 hb
      exact ⟨gCode_ok.1 (by omega), h1.1, by omega⟩
    · omega
def olF (g : G) (r : Nat) : List Int := olK (postL g r) g.n.toNat (postL g r).length
def preF (g : G) : List (List Int) := (List.range g.n.toNat).map fun v => (pre g.es v).map fun x : Nat => (x : Int)
theorem preF_len (g : G) : (preF g).length = g.n.toNat := by simp [preF]
theorem preF_nth {g : G} {v : Nat} (h : v < g.n.toNat) : nth (preF g) v = (pre g.es v).map fun x : Nat => (x : Int) := by
  rw [nth_eq _ _ (by rw [preF_len]; exact h)]; simp [preF]
theorem olF_len (g : G) (r : Nat) : (olF g r).length = g.n.toNat := olK_len _ _ _
theorem idomL_len (g : G) (r : Nat) : (idomL g r).length = g.n.toNat := by simp [idomL]
theorem olF_nth {g : G} {r v : Nat} (h : v < g.n.toNat) : nth (olF g r) v = if v ∈ postL g r then ((postL g r).idxOf v : Int) else -1 := by
  unfold olF
  rw [olK_nth h]
  by_cases hm : v ∈ postL g r
  · rw [if_pos hm, if_pos (List.idxOf_lt_length_of_mem hm)]
  · rw [if_neg hm, if_neg (by rw [List.idxOf_eq_length hm]; exact Nat.lt_irrefl _)]
def reachB (g : G) (r : Nat) (x : Int) : Bool := nodeB g.n x && decide (x.toNat ∈ postL g r)
def domZ (g : G) (r : Nat) (a b : Int) : Bool := reachB g r a && reachB g r b && domB g r a.toNat b.toNat
/-- A dominator stands later in the postorder. -/
theorem Idm.later {g : G} {r : Nat} {uf : List Int} (h : Idm g r uf) : ∀ (m x : Nat), (postL g r).length - (postL g r).idxOf x ≤ m → ∀ y, x ∈ postL g r → Dom (dmC g r) x y → x ≠ y → (postL g r).idxOf x < (postL g r).idxOf y
  | 0, x, hm, y, hx, _, _ => by have := List.idxOf_lt_length_of_mem hx; omega
  | m + 1, x, hm, y, hx, hd, hxy => by
    by_cases hxr : x = r
    · subst hxr; exact absurd (Go.Dm.dom_root (C := dmC g x) hd).symm hxy
    · obtain ⟨z, -, z2, z3, z4⟩ := h.yes x hx hxr
      have hz := (z4 y).2 ⟨hd, Ne.symm hxy⟩
      by_cases e : z = y
      · subst e; exact z3
      · have := h.later m z (by omega) y z2 hz e
        omega
end Go.Gra
namespace Go.Proofs.Ytlijimdkadobmaa
open Go.RowKit Go.Dfl Go.Gra
/-- A finished tree in memory. -/
structure TV (g : G) (r : Nat) (u o p : Value) (vs : List Value) (W : World) : Prop where
  u : Ints W u (idomL g r)
  o : Ints W o (olF g r)
  p : Grid (Value.int .i64) W p vs (preF g)
  idm : Idm g r (idomL g r)
theorem TV.below {g : G} {r : Nat} {u o p : Value} {vs : List Value} {W W' : World} (h : TV g r u o p vs W) (hb : Below W.heap.size W W') : TV g r u o p vs W' := ⟨h.u.below hb, h.o.below hb, h.p.below hb, h.idm⟩
def BuildT (g : G) (r : Nat) (W : World) (e : Ending) (W' : World) : Prop := ∃ (su so sp : Option Addr) (vs : List Value), e = .returned (.agg #[.slice su g.n.toNat g.n.toNat, .slice so g.n.toNat g.n.toNat, .slice sp g.n.toNat g.n.toNat]) ∧ TV g r (.slice su g.n.toNat g.n.toNat) (.slice so g.n.toNat g.n.toNat) (.slice sp g.n.toNat g.n.toNat) vs W' ∧ Below W.heap.size W W'
theorem gBuild_tv (g : G) (cv : Value) (r : Nat) (W : World) (h : Pairs W cv g.es) (hvg : VG g) (hr : r < g.n.toNat) : Calls Try.prog 32 #[GV g cv, .int .i64 (r : Int)] W (BuildT g r W) := by
  refine (gBuild_any g cv r W h hvg hr).mono ?_
  rintro e W' ⟨su, so, sp, up, ol, vs, ll, rfl, ht, hu, ho, hp, hb⟩
  have hi := ht.idm hvg hr
  rw [Idm.eq hi hvg hr] at hu hi
  have e1 : ol = olF g r := nth_ext (by rw [olF_len]; exact ht.ol.len) fun v hv => by
    have hv' : v < g.n.toNat := by rw [ht.ol.len] at hv; exact hv
    rw [olF_nth hv']
    by_cases hm : v ∈ postL g r
    · rw [if_pos hm]; exact ht.ol.at' v hm
    · rw [if_neg hm]; exact ht.ol.no v hv' hm
  have e2 : ll = preF g := nth_ext (by rw [preF_len]; exact ht.lp) fun v hv => by
    rw [ht.lp] at hv
    rw [preF_nth hv]; exact ht.pr v hv
  rw [e1] at ho
  rw [e2] at hp
  exact ⟨_, _, _, vs, rfl, ⟨hu, ho, hp, hi⟩, hb⟩
def CodeR (c : Int) (W : World) (e : Ending) (W' : World) : Prop := e = .returned (.int .i64 c) ∧ Below W.heap.size W W'
set_option maxHeartbeats 800000 in
set_option maxRecDepth 100000 in
theorem dcheck_any (g : G) (cv : Value) (r : Int) (W : World) (h : Pairs W cv g.es) : Calls Try.prog 31 #[GV g cv, .int .i64 r] W (CodeR (dcode g r) W) := by
  obtain ⟨ca, cc, rfl, -, -, -⟩ := pairs_rd h
  have hal := (Below.refl W.heap.size W).alloc (Nat.le_refl _) (.cells #[.int .i64 g.n, .slice ca g.es.length cc] 24)
  have H0 := Lib.hid (And.intro (h.below hal) (And.intro hal (BoxG.new W g.n (.slice ca g.es.length cc) 24)))
  clear h hal
  unfold GV
  go_enter Try.func31, Try.ntmps31
  go_wp2_with fail
  have hck := gCheck_any g (.slice ca g.es.length cc) _ H0.out.1
  unfold GV at hck
  refine hck.mono ?_
  rintro e W1 ⟨rfl, r1⟩
  have H1 := Lib.hid (And.intro (H0.out.2.1.trans (r1.mono H0.out.2.1.size)) (H0.out.2.2.below r1))
  clear r1 hck
  obtain ⟨c0, c1⟩ := H1.out.2
  by_cases hc : gCode g = 0
  · have q0 : (gCode g != 0) = false := by simpa using hc
    by_cases h0 : 0 ≤ r
    · have q1 : decide (r < 0) = false := decide_eq_false (by omega)
      by_cases h1 : r < g.n
      · have q2 : decide (r ≥ g.n) = false := decide_eq_false (by omega)
        have HD : Hid (dcode g r = 0) := Lib.hid (by unfold dcode; rw [if_neg (by simpa using hc), if_pos (nodeB_iff.2 ⟨h0, h1⟩)])
        clear hc h0 h1
        go_wp2_with fail
        go_ret
        exact ⟨by rw [HD.out]; rfl, H1.out.1⟩
      · have q2 : decide (r ≥ g.n) = true := decide_eq_true (by omega)
        have HD : Hid (dcode g r = 4) := Lib.hid (by unfold dcode; rw [if_neg (by simpa using hc), if_neg (by rw [nodeB_iff]; omega)])
        clear hc h0 h1
        go_wp2_with fail
        go_ret
        exact ⟨by rw [HD.out]; rfl, H1.out.1⟩
    · have q1 : decide (r < 0) = true := decide_eq_true (by omega)
      have HD : Hid (dcode g r = 4) := Lib.hid (by unfold dcode; rw [if_neg (by simpa using hc), if_neg (by rw [nodeB_iff]; omega)])
      clear hc h0
      go_wp2_with fail
      go_ret
      exact ⟨by rw [HD.out]; rfl, H1.out.1⟩
  · have q0 : (gCode g != 0) = true := by simpa using hc
    have HD : Hid (dcode g r = gCode g) := Lib.hid (by unfold dcode; rw [if_pos hc])
    clear hc
    go_wp2_with fail
    go_ret
    exact ⟨by rw [HD.out]; rfl, H1.out.1⟩
def BoolR (b : Bool) (W : World) (e : Ending) (W' : World) : Prop := e = .returned (.bool b) ∧ Below W.heap.size W W'
set_option maxHeartbeats 800000 in
set_option maxRecDepth 100000 in
theorem reachable_any (g : G) (r : Nat) (u o p : Value) (vs : List Value) (x : Int) (W : World) (h : TV g r u o p vs W) : Calls Try.prog 35 #[.agg #[u, o, p], .int .i64 x] W (BoolR (reachB g r x) W) := by
  have hal := (Below.refl W.heap.size W).alloc (Nat.le_refl _) (.cells #[u, o, p] 56)
  obtain ⟨c0, c1, c2⟩ := box3 W u o p 56
  obtain ⟨oa, oc, rfl, hom, hoi, hoc, hob⟩ := (h.o.below hal).out1 sIntG
  rw [olF_len] at hom hoi hoc hob c0 c1 c2 hal ⊢
  have HA := Lib.hid hal
  clear h
  obtain ⟨n, hn⟩ : ∃ n, n = g.n.toNat := ⟨_, rfl⟩
  rw [← hn] at hom hoi hoc hob c0 c1 c2 ⊢
  rw [← hn] at HA
  have HN := Lib.hid hn
  clear hal hn
  go_enter Try.func35, Try.ntmps35
  by_cases h0 : 0 ≤ x
  · have q1 : decide (x ≥ 0) = true := decide_eq_true h0
    obtain ⟨y, rfl⟩ : ∃ y : Nat, x = (y : Int) := ⟨x.toNat, by omega⟩
    by_cases h1 : y < n
    · have h1' : (y : Int) < (n : Int) := by omega
      have q2 : decide ((y : Int) < (n : Int)) = true := decide_eq_true h1'
      have r1 := hoc y h1
      have i1 := hoi .i64 (y : Int) (by omega) (by omega)
      rw [Int.toNat_natCast] at i1
      have hnb : nodeB g.n (y : Int) = true := nodeB_nat (by rw [← HN.out]; exact h1)
      rw [olF_nth (by rw [← HN.out]; exact h1)] at r1
      clear hoi hoc hob
      by_cases hm : y ∈ postL g r
      · rw [if_pos hm] at r1
        obtain ⟨z, hz⟩ : ∃ z, z = (postL g r).idxOf y := ⟨_, rfl⟩
        rw [← hz] at r1
        have hz0 : (0 : Int) ≤ (z : Int) := by omega
        have q3 : decide ((z : Int) ≥ 0) = true := decide_eq_true hz0
        have HD : Hid (reachB g r (y : Int) = true) := Lib.hid (by unfold reachB; rw [hnb, Int.toNat_natCast, decide_eq_true hm]; rfl)
        clear hm hz hnb h0
        go_wp2_with fail
        go_ret
        exact ⟨by rw [HD.out]; rfl, HA.out⟩
      · rw [if_neg hm] at r1
        have HD : Hid (reachB g r (y : Int) = false) := Lib.hid (by unfold reachB; rw [hnb, Int.toNat_natCast, decide_eq_false hm]; rfl)
        clear hm hnb h0
        go_wp2_with fail
        go_ret
        exact ⟨by rw [HD.out]; rfl, HA.out⟩
    · have h1' : ¬ (y : Int) < (n : Int) := by omega
      have q2 : decide ((y : Int) < (n : Int)) = false := decide_eq_false h1'
      have HD : Hid (reachB g r (y : Int) = false) := Lib.hid (by
        have : nodeB g.n (y : Int) = false := by
          cases hb : nodeB g.n (y : Int)
          · rfl
          · have := nodeB_iff.1 hb; have := HN.out; omega
        unfold reachB; rw [this]; rfl)
      clear h0
      go_wp2_with fail
      go_ret
      exact ⟨by rw [HD.out]; rfl, HA.out⟩
  · have q1 : decide (x ≥ 0) = false := decide_eq_false h0
    have HD : Hid (reachB g r x = false) := Lib.hid (by
      have : nodeB g.n x = false := by
        cases hb : nodeB g.n x
        · rfl
        · have := nodeB_iff.1 hb; omega
      unfold reachB; rw [this]; rfl)
    clear h0
    go_wp2_with fail
    go_ret
    exact ⟨by rw [HD.out]; rfl, HA.out⟩
set_option maxHeartbeats 1600000 in
set_option maxRecDepth 100000 in
theorem dominates_any (g : G) (r : Nat) (u o p : Value) (vs : List Value) (a b : Int) (W : World) (h : TV g r u o p vs W) (hvg : VG g) (hr : r < g.n.toNat) : Calls Try.prog 33 #[.agg #[u, o, p], .int .i64 a, .int .i64 b] W (BoolR (domZ g r a b) W) := by
  have hal := (Below.refl W.heap.size W).alloc (Nat.le_refl _) (.cells #[u, o, p] 56)
  obtain ⟨c0, c1, c2⟩ := box3 W u o p 56
  have ht := h.below hal
  have lb := World.block_lt_of_cell? _ _ c0
  dsimp only at lb
  have HA := Lib.hid (And.intro hal (And.intro ht (And.intro lb (And.intro c0 (And.intro c1 c2)))))
  have HV := Lib.hid (And.intro hvg hr)
  clear h hal ht lb hvg hr
  go_enter Try.func33, Try.ntmps33
  go_wp2_with fail
  generalize hbs : W.heap.size = bs at *
  have HBS := Lib.hid hbs
  clear hbs
  generalize W.alloc (.cells #[u, o, p] 56) = W1 at *
  refine (reachable_any g r u o p vs a W1 HA.out.2.1).mono ?_
  rintro e W2 ⟨rfl, b2⟩
  clear c0 c1 c2
  have d0 : W2.cell? ⟨bs, 0, none⟩ = some u := by rw [b2.cell (p := ⟨bs, 0, none⟩) HA.out.2.2.1]; exact HA.out.2.2.2.1
  have d1 : W2.cell? ⟨bs, 1, none⟩ = some o := by rw [b2.cell (p := ⟨bs, 1, none⟩) HA.out.2.2.1]; exact HA.out.2.2.2.2.1
  have d2 : W2.cell? ⟨bs, 2, none⟩ = some p := by rw [b2.cell (p := ⟨bs, 2, none⟩) HA.out.2.2.1]; exact HA.out.2.2.2.2.2
  have H2 := Lib.hid b2
  clear b2
  cases ha : reachB g r a
  · have HD : Hid (domZ g r a b = false) := Lib.hid (by unfold domZ; rw [ha]; rfl)
    clear ha
    go_wp2_with fail
    go_ret
    exact ⟨by rw [HD.out]; rfl, by rw [HBS.out]; exact HA.out.1.trans (H2.out.mono (Nat.le_of_lt HA.out.2.2.1))⟩
  · have HRA := Lib.hid ha
    clear ha
    go_wp2_with fail
    refine (reachable_any g r u o p vs b W2 (HA.out.2.1.below H2.out)).mono ?_
    rintro e W3 ⟨rfl, b3⟩
    clear d0 d1 d2
    have H3 := Lib.hid (H2.out.trans (b3.mono H2.out.size))
    clear b3
    have d0 : W3.cell? ⟨bs, 0, none⟩ = some u := by rw [H3.out.cell (p := ⟨bs, 0, none⟩) HA.out.2.2.1]; exact HA.out.2.2.2.1
    have d1 : W3.cell? ⟨bs, 1, none⟩ = some o := by rw [H3.out.cell (p := ⟨bs, 1, none⟩) HA.out.2.2.1]; exact HA.out.2.2.2.2.1
    cases hb : reachB g r b
    · have HD : Hid (domZ g r a b = false) := Lib.hid (by unfold domZ; rw [hb, Bool.and_false]; rfl)
      clear hb
      go_wp2_with fail
      go_ret
      exact ⟨by rw [HD.out]; rfl, by rw [HBS.out]; exact HA.out.1.trans (H3.out.mono (Nat.le_of_lt HA.out.2.2.1))⟩
    · have hra := HRA.out
      unfold reachB at hra
      rw [Bool.and_eq_true, decide_eq_true_eq] at hra
      obtain ⟨ha1, ha2⟩ := hra
      have hb' := hb
      unfold reachB at hb'
      rw [Bool.and_eq_true, decide_eq_true_eq] at hb'
      obtain ⟨hb1, hb2⟩ := hb'
      obtain ⟨a', rfl⟩ : ∃ a' : Nat, a = (a' : Int) := ⟨a.toNat, by have := (nodeB_iff.1 ha1).1; omega⟩
      obtain ⟨b', rfl⟩ : ∃ b' : Nat, b = (b' : Int) := ⟨b.toNat, by have := (nodeB_iff.1 hb1).1; omega⟩
      rw [Int.toNat_natCast] at ha2 hb2
      have HD : Hid (domZ g r (a' : Int) (b' : Int) = domB g r a' b') := Lib.hid (by unfold domZ; rw [HRA.out, hb, Int.toNat_natCast, Int.toNat_natCast]; rfl)
      have hT := HA.out.2.1.below H3.out
      obtain ⟨ua, uc, rfl, hum, hui, huc, -⟩ := hT.u.out1 sIntG
      obtain ⟨oa, oc, rfl, hom, hoi, hoc, -⟩ := hT.o.out1 sIntG
      rw [idomL_len] at hum hui huc
      rw [olF_len] at hom hoi hoc
      have ha3 := post_lt HV.out.1 HV.out.2 ha2
      have hao := hoc a' ha3
      rw [olF_nth ha3, if_pos ha2] at hao
      have hai := hoi .i64 (a' : Int) (by omega) (by omega)
      rw [Int.toNat_natCast] at hai
      obtain ⟨x, hx⟩ : ∃ x, x = (postL g r).idxOf a' := ⟨_, rfl⟩
      rw [← hx] at hao
      have HI := Lib.hid (And.intro hui (And.intro huc (And.intro hoi (And.intro hoc (And.intro hum hom)))))
      have HP := Lib.hid (And.intro ha2 (And.intro hb2 (And.intro hx hT.idm)))
      clear hui huc hoi hoc hum hom ha1 hb1 hb ha2 hb2 hx hT ha3 HRA
      rw [idomL_len, olF_len] at *
      go_wp2_with fail
      go_loopw [2] (fun y wr => ∃ c : Nat, y = .int .i64 (c : Int) ∧ Hid (c ∈ postL g r ∧ (Go.Dm.Dom (dmC g r) b' a' ↔ Go.Dm.Dom (dmC g r) c a')) ∧ Qt W3 wr) (fun y _ => (postL g r).length - (postL g r).idxOf (intOf y).toNat)
      case atStart => exact ⟨b', rfl, ⟨HP.out.2.1, Iff.rfl⟩, Qt.refl _⟩
      case round =>
        obtain ⟨c, rfl, hh, nw, rfl⟩ := hrel
        obtain ⟨hc1, hc2⟩ := hh.out
        have hcn := post_lt HV.out.1 HV.out.2 hc1
        obtain ⟨hui, huc, hoi, hoc, hum, hom⟩ := HI.out
        have q1 : decide ((c : Int) ≥ 0) = true := decide_eq_true (by omega)
        have r1 := hoc c hcn
        rw [olF_nth hcn, if_pos hc1] at r1
        have i1 := hoi .i64 (c : Int) (by omega) (by omega)
        rw [Int.toNat_natCast] at i1
        obtain ⟨y, hy⟩ : ∃ y, y = (postL g r).idxOf c := ⟨_, rfl⟩
        rw [← hy] at r1
        have HC := Lib.hid (And.intro hc1 (And.intro hc2 (And.intro hy hcn)))
        by_cases hlt : y < x
        · have hlt' : (y : Int) < (x : Int) := by omega
          have q2 : decide ((y : Int) < (x : Int)) = true := decide_eq_true hlt'
          have hcr : c ≠ r := fun e => by
            have h1 := (dmC_last HV.out.1 HV.out.2).1
            have h2 := List.idxOf_lt_length_of_mem HP.out.1
            rw [← HP.out.2.2.1] at h2
            rw [e] at hy
            omega
          obtain ⟨w, w1, w2, w3, w4⟩ := HP.out.2.2.2.yes c hc1 hcr
          have r2 := huc c hcn
          rw [w1] at r2
          have i2 := hui .i64 (c : Int) (by omega) (by omega)
          rw [Int.toNat_natCast] at i2
          have hne : a' ≠ c := fun e => by rw [← e, ← HP.out.2.2.1] at hy; omega
          have HW := Lib.hid (And.intro w2 (And.intro (hc2.trans ⟨fun h => (w4 a').2 ⟨h, hne⟩, fun h => ((w4 a').1 h).1⟩) w3))
          clear hui huc hoi hoc hum hom hh hc1 hc2 hy hcn hcr w1 w2 w3 w4 hne hlt
          go_wp2_with fail
          go_quiet (fail)
          go_wp2_with fail
          go_roundw
          case rel => exact ⟨w, rfl, ⟨HW.out.1, HW.out.2.1⟩, (by first | exact Qt.refl _ | exact Qt.drewN _ _ | exact (Qt.drewN _ _).trans (Qt.drewN _ _) | exact ((Qt.drewN _ _).trans (Qt.drewN _ _)).trans (Qt.drewN _ _) | exact Qt.drew _ | exact (Qt.drewN _ _).trans (Qt.drew _))⟩
          case measure =>
            have h1 := HW.out.2.2
            have h2 := List.idxOf_lt_length_of_mem HW.out.1
            simp only [intOf, Int.toNat_natCast]; omega
        · have hlt' : ¬ (y : Int) < (x : Int) := by omega
          have q2 : decide ((y : Int) < (x : Int)) = false := decide_eq_false hlt'
          clear hui huc hoi hoc hum hom hh hc1 hc2 hy hcn
          by_cases hac : a' = c
          · have q3 : ((a' : Int) == (c : Int)) = true := by simp; omega
            have HR : Hid (domB g r a' b' = true) := Lib.hid (by
              rw [domB_iff HV.out.1 HV.out.2 (post_lt HV.out.1 HV.out.2 HP.out.2.1), HC.out.2.1, hac]
              exact Go.Dm.Dom.refl HC.out.1)
            clear hac
            go_wp2_with fail
            go_quiet (fail)
            go_wp2_with fail
            go_ret
            exact ⟨by rw [HD.out, HR.out]; rfl, by rw [HBS.out]; exact below_drewN (HA.out.1.trans (H3.out.mono (Nat.le_of_lt HA.out.2.2.1))) _⟩
          · have q3 : ((a' : Int) == (c : Int)) = false := by simp; omega
            have HR : Hid (domB g r a' b' = false) := Lib.hid (by
              cases hd : domB g r a' b'
              · rfl
              · rw [domB_iff HV.out.1 HV.out.2 (post_lt HV.out.1 HV.out.2 HP.out.2.1), HC.out.2.1] at hd
                have := HP.out.2.2.2.later _ c (Nat.le_refl _) a' HC.out.1 hd (Ne.symm hac)
                rw [← HC.out.2.2.1, ← HP.out.2.2.1] at this
                omega)
            clear hac
            go_wp2_with fail
            go_quiet (fail)
            go_wp2_with fail
            go_ret
            exact ⟨by rw [HD.out, HR.out]; rfl, by rw [HBS.out]; exact below_drewN (HA.out.1.trans (H3.out.mono (Nat.le_of_lt HA.out.2.2.1))) _⟩
end Go.Proofs.Ytlijimdkadobmaa
