/- Contracts of Needs, Query, Slice. -/
import Derived.Test.YtkfhopnolflchaaDmv
import Derived.Test.YtkfhopnolflchaaDmt
import Derived.Test.YtkfhopnolflchaaLwA
namespace Go.And
open Go.Dfl (nth nth_mem mem_nth nth_eq nth_ext)
/-- The error of a system and a variable. -/
def dCode (s : Sy) (v : Int) : Int := if chkCode s ≠ 0 then chkCode s else if v < 0 ∨ s.vars ≤ v then 4 else 0
theorem dCode_bad {s : Sy} {v : Int} (h : chkCode s ≠ 0) : dCode s v = chkCode s := by unfold dCode; rw [if_pos h]
theorem dCode_rng {s : Sy} {v : Int} (h : chkCode s = 0) (hv : v < 0 ∨ s.vars ≤ v) : dCode s v = 4 := by unfold dCode; rw [if_neg (by simp [h]), if_pos hv]
theorem dCode_ok {s : Sy} {v : Int} (h : chkCode s = 0) (hv : ¬ (v < 0 ∨ s.vars ≤ v)) : dCode s v = 0 := by unfold dCode; rw [if_neg (by simp [h]), if_neg hv]
theorem dCode_zero {s : Sy} {v : Int} (h : dCode s v = 0) : chkCode s = 0 ∧ 0 ≤ v ∧ v < s.vars := by
  unfold dCode at h
  by_cases h1 : chkCode s = 0
  · rw [if_neg (by simp [h1])] at h
    by_cases h2 : v < 0 ∨ s.vars ≤ v
    · rw [if_pos h2] at h; omega
    · exact ⟨h1, by omega, by omega⟩
  · rw [if_pos h1] at h; exact absurd h h1
structure IsVis (S : Syst) (v : Nat) (vl : List Bool) : Prop where
  len : vl.length = S.vars
  iff : ∀ x, nth vl x = true ↔ Vis S v x
theorem IsVis.unique {S : Syst} {v : Nat} {a b : List Bool} (h : IsVis S v a) (k : IsVis S v b) : a = b := by
  refine nth_ext (by rw [h.len, k.len]) fun i _ => ?_
  rw [Bool.eq_iff_iff, h.iff, k.iff]
def NL (vl : List Bool) : List Int := ((List.range vl.length).filter (nth vl)).map fun x : Nat => (x : Int)
theorem count_range : ∀ (vl : List Bool) (n : Nat), n ≤ vl.length → ((List.range n).filter (nth vl)).length = (vl.take n).count true
  | vl, 0, _ => by simp
  | vl, n + 1, h => by
    have ih := count_range vl n (by omega)
    rw [List.range_succ, List.filter_append, List.length_append, ih, Go.Dfl.take_snoc _ _ (by omega), List.count_append]
    congr 1
    cases e : nth vl n <;> simp [e]
theorem NL_len (vl : List Bool) : (NL vl).length = vl.count true := by
  unfold NL
  rw [List.length_map, count_range vl vl.length (Nat.le_refl _), List.take_length]
def NeedL (s : Sy) (v : Int) (L : List Int) : Prop := (dCode s v ≠ 0 ∧ L = []) ∨ (dCode s v = 0 ∧ ∃ vl, IsVis s.S v.toNat vl ∧ L = NL vl)
theorem NeedL.unique {s : Sy} {v : Int} {L M : List Int} (h : NeedL s v L) (k : NeedL s v M) : L = M := by
  rcases h with ⟨h0, rfl⟩ | ⟨h0, vl, hv, rfl⟩
  · rcases k with ⟨-, rfl⟩ | ⟨k0, -⟩
    · rfl
    · exact absurd k0 h0
  · rcases k with ⟨k0, -⟩ | ⟨-, vl', hv', rfl⟩
    · exact absurd h0 k0
    · rw [hv.unique hv']
def rngL (n : Nat) : List Int := (List.range n).map fun x : Nat => (x : Int)
end Go.And
namespace Go.Proofs.Ytkfhopnolflchaa
open Go.RowKit Go.Dfl Go.And

/-- What a query returns. -/
def QL (s : Sy) (v b : Int) (L : List Int) (code : Int) : Prop :=
  (dCode s v ≠ 0 ∧ code = dCode s v ∧ L = []) ∨ (dCode s v = 0 ∧ (b < 0 ∨ 65536 < b) ∧ code = 4 ∧ L = []) ∨
  (dCode s v = 0 ∧ 0 ≤ b ∧ b ≤ 65536 ∧ ∃ vl, IsVis s.S v.toNat vl ∧ ((b < (vl.count true : Int) ∧ code = 18 ∧ L = rngL s.S.sites) ∨ ((vl.count true : Int) ≤ b ∧ code = 0 ∧ IsSol s.S v.toNat L)))
theorem QL.unique {s : Sy} {v b : Int} {L M : List Int} {c d : Int} (h : QL s v b L c) (k : QL s v b M d) : L = M ∧ c = d := by
  rcases h with ⟨h0, rfl, rfl⟩ | ⟨h0, h1, rfl, rfl⟩ | ⟨h0, h1, h2, vl, hv, h3⟩
  · rcases k with ⟨-, rfl, rfl⟩ | ⟨k0, -⟩ | ⟨k0, -⟩
    · exact ⟨rfl, rfl⟩
    · exact absurd k0 h0
    · exact absurd k0 h0
  · rcases k with ⟨k0, -⟩ | ⟨-, -, rfl, rfl⟩ | ⟨-, k1, k2, -⟩
    · exact absurd h0 k0
    · exact ⟨rfl, rfl⟩
    · omega
  · rcases k with ⟨k0, -⟩ | ⟨-, k1, -⟩ | ⟨-, -, -, vl', hv', k3⟩
    · exact absurd h0 k0
    · omega
    · obtain rfl := hv.unique hv'
      rcases h3 with ⟨a1, rfl, rfl⟩ | ⟨a1, rfl, a2⟩
      · rcases k3 with ⟨-, rfl, rfl⟩ | ⟨b1, -⟩
        · exact ⟨rfl, rfl⟩
        · omega
      · rcases k3 with ⟨b1, -⟩ | ⟨-, rfl, b2⟩
        · omega
        · exact ⟨a2.unique b2, rfl⟩
def NeedsR (s : Sy) (v : Int) (W : World) (e : Ending) (W' : World) : Prop := ∃ a c L, e = .returned (.tuple #[.slice a L.length c, .int .i64 (dCode s v)]) ∧ Ints W' (.slice a L.length c) L ∧ NeedL s v L ∧ Below W.heap.size W W'
def QueryR (s : Sy) (v b : Int) (W : World) (e : Ending) (W' : World) : Prop := ∃ a c L code, e = .returned (.tuple #[.slice a L.length c, .int .i64 code]) ∧ Ints W' (.slice a L.length c) L ∧ QL s v b L code ∧ Below W.heap.size W W'
/-- The slice that is returned. -/
def SlL (s : Sy) (v : Int) (t : Sy) : Prop := (dCode s v ≠ 0 ∧ t = ⟨0, 0, 0, []⟩) ∨ (dCode s v = 0 ∧ ∃ vl fl, IsVis s.S v.toNat vl ∧ fl.length = s.S.fields ∧ (∀ f, nth fl f = true ↔ LdF s.S v.toNat f) ∧ t = s.cut vl fl)
def SliceR (s : Sy) (v : Int) (W : World) (e : Ending) (W' : World) : Prop := ∃ a c t, e = .returned (.tuple #[SysV t (.slice a t.cons.length c), .int .i64 (dCode s v)]) ∧ ConsIn W' (.slice a t.cons.length c) t.cons ∧ SlL s v t ∧ Below W.heap.size W W'

theorem field0 (x y z : Value) (w : World) : (Instr.field 51 (.agg #[x, y, z]) 0).run Try.prog w = .ok x w := by kernel_rfl
set_option maxHeartbeats 3200000 in
set_option maxRecDepth 100000 in
theorem Needs_any (s : Sy) (cv : Value) (v : Int) (W : World) (hc : ConsIn W cv s.cons) (hs : Sm s) : Calls Try.prog 11 #[SysV s cv, .int .i64 v] W (NeedsR s v W) := by
  obtain ⟨ca, cc, rfl, -⟩ := hc.out
  have HC := Lib.hid (And.intro hc hs)
  clear hc hs
  unfold SysV
  go_enter Try.func11, Try.ntmps11
  go_wp2_with fail
  refine calls_gen (fun Z => SysB W.heap.size s (.slice ca s.cons.length cc) Z ∧ Below W.heap.size W Z) ⟨SysB.new HC.out.1 24, (Below.refl _ _).alloc (Nat.le_refl _) _⟩ ?_
  rintro Z0 h0
  obtain ⟨bs, hbs⟩ : ∃ bs, bs = W.heap.size := ⟨_, rfl⟩
  have H0 : Hid (SysB bs s (.slice ca s.cons.length cc) Z0 ∧ Below W.heap.size W Z0) := by rw [hbs]; exact h0
  rw [← hbs]
  clear h0 hbs
  refine (Check_any s (.slice ca s.cons.length cc) _ H0.out.1.cons HC.out.2).mono ?_
  rintro e W1 ⟨rfl, r1⟩
  have hb1 := H0.out.2.trans (r1.mono H0.out.2.size)
  have H1 := Lib.hid (And.intro (H0.out.1.below r1) hb1)
  obtain ⟨⟨d0, d1, d2, d3⟩, -⟩ := H1.out.1
  clear hb1 H0 r1
  by_cases h0 : chkCode s = 0
  · rw [h0]
    by_cases hv : v < 0 ∨ s.vars ≤ v
    · have HD := Lib.hid (dCode_rng h0 hv)
      clear h0
      by_cases h1 : v < 0
      · clear hv
        go_wp2_with fail
        go_ret2
        refine ⟨none, 0, [], by rw [HD.out]; rfl, Lst.nil _ _, .inl ⟨by rw [HD.out]; omega, rfl⟩, H1.out.2⟩
      · have h2 : s.vars ≤ v := by omega
        clear hv
        go_wp2_with fail
        go_ret2
        refine ⟨none, 0, [], by rw [HD.out]; rfl, Lst.nil _ _, .inl ⟨by rw [HD.out]; omega, rfl⟩, H1.out.2⟩
    · have HD := Lib.hid (And.intro (dCode_ok h0 hv) (chkCode_ok.1 h0))
      have h1 : ¬ v < 0 := by omega
      have h2 : ¬ s.vars ≤ v := by omega
      obtain ⟨n, rfl⟩ : ∃ n : Nat, v = n := ⟨v.toNat, by omega⟩
      have hn : n < s.S.vars := by show n < s.vars.toNat; omega
      clear h0 hv h1
      have hd1 : decide ((n : Int) < 0) = false := by simp
      have hd2 : decide (s.vars ≤ (n : Int)) = false := by simpa using h2
      go_wp2_with fail
      clear d0 d1 d2 d3
      refine (visited_any s (.slice ca s.cons.length cc) n _ H1.out.1.cons HC.out.2 HD.out.2 hn).mono ?_
      rintro e W2 ⟨va, vc, fa, fc, vl, fl, rfl, l1, l2, lv, lf, f1, f2, r2⟩
      have hbv : s.S.vars ≤ 40 := HC.out.2.bnd.vars
      obtain ⟨mv, vi, vcell⟩ := lst_rd l1 lv
      have H2 := Lib.hid (And.intro (And.intro lv f1) (And.intro (H1.out.2.trans (r2.mono H1.out.2.size)) vcell))
      obtain ⟨N, hN⟩ : ∃ N, N = s.S.vars := ⟨_, rfl⟩
      rw [← hN] at mv vi hbv ⊢
      have HN := Lib.hid hN
      clear l1 l2 lv lf f1 f2 r2 vcell hN hn hd1 h2 hd2
      have hfld := field0
      go_wp2_with fail
      clear hfld
      go_loopw [7, 8, 9, 28] (fun o _ _ x wr => ∃ k : Nat, k ≤ N ∧ x = .int .i64 k ∧ Hid (OwnI wr W2.heap.size 3 o (((List.range k).filter (nth vl)).map fun x : Nat => (x : Int)) ∧ Below W2.heap.size W2 wr)) (fun _ _ _ x _ => N - (intOf x).toNat)
      case atStart => exact ⟨0, by omega, rfl, Own.nil _ _ _ _, Below.refl _ _⟩
      case round =>
        obtain ⟨k, hk, rfl, hh⟩ := hrel
        by_cases hlt : k < N
        · have hx := H2.out.2.2 wr hh.out.2 k (by rw [← HN.out]; exact hlt)
          obtain ⟨t, ht⟩ : ∃ t, t = nth vl k := ⟨_, rfl⟩
          rw [← ht] at hx
          have HT := Lib.hid ht
          have hll : (((List.range k).filter (nth vl)).map fun x : Nat => (x : Int)).length < 17592186044416 := by
            rw [List.length_map]; exact Nat.lt_of_le_of_lt (List.length_filter_le _ _) (by simp; omega)
          have HL := Lib.hid hll
          have hsz := hh.out.2.size
          clear ht hll
          cases t
          · go_wp2_with fail
            go_roundw
            case rel => exact ⟨k + 1, by omega, by go_num, by rw [List.range_succ, List.filter_append]; simpa [← HT.out] using hh.out.1, hh.out.2⟩
            case measure => simp [intOf]; omega
          · go_wp2_with (at_builtin; refine wp_append1 (f := Value.int .i64) sIntD rfl _ rfl _ _ rfl W2.heap.size _ (((List.range k).filter (nth vl)).map fun x : Nat => (x : Int)) rfl (hh.out.1.alloc _) (k : Int) ⟨wr.heap.size, 0, none⟩ rfl (cell_alloc1 _ _ _) rfl HL.out (by omega) (le_alloc _ hsz) ?_; intro v' w3 hown hgr hb3)
            go_roundw
            case rel => exact ⟨k + 1, by omega, by go_num, by rw [List.range_succ, List.filter_append]; simpa [← HT.out] using hown, (hh.out.2.alloc hh.out.2.size _).trans hb3⟩
            case measure => simp [intOf]; omega
        · obtain rfl : k = N := by omega
          have HE := Lib.hid hh.out
          clear hh
          obtain ⟨a9, c9, rfl⟩ := HE.out.1.shape rfl
          go_wp2_with fail
          go_ret2
          have hnl : ((List.range k).filter (nth vl)).map (fun x : Nat => (x : Int)) = NL vl := by unfold NL; rw [H2.out.1.1, ← HN.out]
          rw [hnl] at HE
          refine ⟨a9, c9, NL vl, by rw [hnl, HD.out.1]; rfl, HE.out.1.lst, .inr ⟨HD.out.1, vl, ⟨H2.out.1.1, by simpa using H2.out.1.2⟩, rfl⟩, H2.out.2.1.trans (HE.out.2.mono H2.out.2.1.size)⟩
  · have hz : (chkCode s != 0) = true := by simpa using h0
    have HZ := Lib.hid (dCode_bad (v := v) h0)
    have HZ0 := Lib.hid h0
    generalize hcd : chkCode s = code at *
    clear h0
    go_wp2_with fail
    go_ret2
    exact ⟨none, 0, [], by rw [HZ.out]; rfl, Lst.nil _ _, .inl ⟨by rw [HZ.out]; exact HZ0.out, rfl⟩, H1.out.2⟩

set_option maxHeartbeats 6400000 in
set_option maxRecDepth 100000 in
theorem Query_any (s : Sy) (cv : Value) (v b : Int) (W : World) (hc : ConsIn W cv s.cons) (hs : Sm s) : Calls Try.prog 9 #[SysV s cv, .int .i64 v, .int .i64 b] W (QueryR s v b W) := by
  obtain ⟨ca, cc, rfl, -⟩ := hc.out
  have HC := Lib.hid (And.intro hc hs)
  clear hc hs
  unfold SysV
  go_enter Try.func9, Try.ntmps9
  go_wp2_with fail
  refine calls_gen (fun Z => SysB W.heap.size s (.slice ca s.cons.length cc) Z ∧ Below W.heap.size W Z) ⟨SysB.new HC.out.1 24, (Below.refl _ _).alloc (Nat.le_refl _) _⟩ ?_
  rintro Z0 h0
  obtain ⟨bs, hbs⟩ : ∃ bs, bs = W.heap.size := ⟨_, rfl⟩
  have H0 : Hid (SysB bs s (.slice ca s.cons.length cc) Z0 ∧ Below W.heap.size W Z0) := by rw [hbs]; exact h0
  rw [← hbs]
  clear h0 hbs
  refine (Check_any s (.slice ca s.cons.length cc) _ H0.out.1.cons HC.out.2).mono ?_
  rintro e W1 ⟨rfl, r1⟩
  have hb1 := H0.out.2.trans (r1.mono H0.out.2.size)
  have H1 := Lib.hid (And.intro (H0.out.1.below r1) hb1)
  obtain ⟨⟨d0, d1, d2, d3⟩, -⟩ := H1.out.1
  clear hb1 H0 r1
  by_cases h0 : chkCode s = 0
  · rw [h0]
    by_cases hv : v < 0 ∨ s.vars ≤ v
    · have HD := Lib.hid (dCode_rng h0 hv)
      clear h0
      by_cases h1 : v < 0
      · clear hv
        go_wp2_with fail
        go_ret2
        refine ⟨none, 0, [], 4, rfl, Lst.nil _ _, .inl ⟨by rw [HD.out]; omega, HD.out.symm, rfl⟩, H1.out.2⟩
      · have h2 : s.vars ≤ v := by omega
        clear hv
        go_wp2_with fail
        go_ret2
        refine ⟨none, 0, [], 4, rfl, Lst.nil _ _, .inl ⟨by rw [HD.out]; omega, HD.out.symm, rfl⟩, H1.out.2⟩
    · have HD := Lib.hid (And.intro (dCode_ok h0 hv) (And.intro (chkCode_ok.1 h0) h0))
      have h1 : ¬ v < 0 := by omega
      have h2 : ¬ s.vars ≤ v := by omega
      obtain ⟨n, rfl⟩ : ∃ n : Nat, v = n := ⟨v.toNat, by omega⟩
      have hn : n < s.S.vars := by show n < s.vars.toNat; omega
      clear h0 hv h1
      have hd1 : decide ((n : Int) < 0) = false := by simp
      have hd2 : decide (s.vars ≤ (n : Int)) = false := by simpa using h2
      by_cases hb1 : b < 0
      · have hd3 : decide (b < 0) = true := by simpa using hb1
        go_wp2_with fail
        go_ret2
        exact ⟨none, 0, [], 4, rfl, Lst.nil _ _, .inr (.inl ⟨HD.out.1, .inl hb1, rfl, rfl⟩), H1.out.2⟩
      · have hd3 : decide (b < 0) = false := by simpa using hb1
        by_cases hb2 : 65536 < b
        · have hd4 : decide (65536 < b) = true := by simpa using hb2
          go_wp2_with fail
          go_ret2
          exact ⟨none, 0, [], 4, rfl, Lst.nil _ _, .inr (.inl ⟨HD.out.1, .inr hb2, rfl, rfl⟩), H1.out.2⟩
        · have hd4 : decide (65536 < b) = false := by simpa using hb2
          go_wp2_with fail
          clear d0 d1 d2 d3
          refine (visited_any s (.slice ca s.cons.length cc) n _ H1.out.1.cons HC.out.2 HD.out.2.1 hn).mono ?_
          rintro e W2 ⟨va, vc, fa, fc, vl, fl, rfl, l1, l2, lv, lf, f1, f2, r2⟩
          have hIV : IsVis s.S ((n : Int).toNat) vl := ⟨lv, by simpa using f1⟩
          have hal : Below W2.heap.size W2 (W2.alloc (.cells #[.slice va s.S.vars vc, .slice fa s.S.fields fc, .int .i64 ((vl.count true : Nat) : Int)] 51)) := (Below.refl _ _).alloc (Nat.le_refl _) _
          have hb2' : Below W.heap.size W W2 := H1.out.2.trans (r2.mono H1.out.2.size)
          have cq := cells_new (W := W2) (cs := [.slice va s.S.vars vc, .slice fa s.S.fields fc, .int .i64 ((vl.count true : Nat) : Int)]) (t := 51) rfl
          have hcb : vl.count true ≤ 40 := by have h1 : vl.count true ≤ vl.length := List.count_le_length; have h2 := HC.out.2.bnd.vars; omega
          obtain ⟨cn, hcn⟩ : ∃ cn, cn = vl.count true := ⟨_, rfl⟩
          rw [← hcn] at cq hal hcb ⊢
          have H2 := Lib.hid (And.intro ((H1.out.1.below r2).below hal) (And.intro (hb2'.alloc hb2'.size (.cells #[.slice va s.S.vars vc, .slice fa s.S.fields fc, .int .i64 (cn : Int)] 51)) (And.intro (And.intro (cq 0 _ rfl) (And.intro (cq 1 _ rfl) (cq 2 _ rfl))) (And.intro (l1.below hal) (And.intro (l2.below hal) (And.intro lv (And.intro lf (And.intro hIV (And.intro f1 (And.intro f2 hcn))))))))))
          clear l1 l2 lv lf f1 f2 r2 hal hb2' cq hIV hcn hd1 hd2 hd3 hd4
          obtain ⟨⟨d0, d1, d2, d3⟩, -⟩ := H2.out.1
          obtain ⟨x0, x1, x2⟩ := H2.out.2.2.1
          by_cases hcb2 : b < (cn : Int)
          · have es : s.sites = (s.S.sites : Int) := (Int.toNat_of_nonneg HD.out.2.1.sites).symm
            rw [es] at d1
            have hsb : s.S.sites ≤ 12 := HC.out.2.bnd.sites
            obtain ⟨N, hN⟩ : ∃ N, N = s.S.sites := ⟨_, rfl⟩
            rw [← hN] at d1 hsb
            have HN := Lib.hid hN
            have hgt : decide (b < (cn : Int)) = true := by simpa using hcb2
            clear es hN
            go_wp2_with fail
            refine wp_gen (fun Z => Below W.heap.size W Z) H2.out.2.1 ?_
            rintro W3 h3
            have H3 := Lib.hid h3
            clear h3 d0 d1 d2 d3 x0 x1 x2
            go_loopw [10, 11, 44] (fun o _ x wr => ∃ k : Nat, k ≤ N ∧ x = .int .i64 k ∧ Hid (OwnI wr W3.heap.size 3 o (rngL k) ∧ Below W3.heap.size W3 wr)) (fun _ _ x _ => N - (intOf x).toNat)
            case atStart => exact ⟨0, by omega, rfl, Own.nil _ _ _ _, Below.refl _ _⟩
            case round =>
              obtain ⟨k, hk, rfl, hh⟩ := hrel
              by_cases hlt : k < N
              · have hsz := hh.out.2.size
                have hll : (rngL k).length < 17592186044416 := by simp [rngL]; omega
                have HL := Lib.hid hll
                clear hll
                go_wp2_with (at_builtin; refine wp_append1 (f := Value.int .i64) sIntD rfl _ rfl _ _ rfl W3.heap.size _ (rngL k) rfl (hh.out.1.alloc _) (k : Int) ⟨wr.heap.size, 0, none⟩ rfl (cell_alloc1 _ _ _) rfl HL.out (by omega) (le_alloc _ hsz) ?_; intro v' w3 hown hgr hb3)
                go_roundw
                case rel => exact ⟨k + 1, by omega, by go_num, by have : rngL (k + 1) = rngL k ++ [(k : Int)] := by simp [rngL, List.range_succ]
                                                                  rw [this]; exact hown, (hh.out.2.alloc hh.out.2.size _).trans hb3⟩
                case measure => simp [intOf]; omega
              · obtain rfl : k = N := by omega
                have HE := Lib.hid hh.out
                clear hh
                obtain ⟨a9, c9, rfl⟩ := HE.out.1.shape rfl
                go_wp2_with fail
                go_ret2
                refine ⟨a9, c9, rngL k, 18, rfl, HE.out.1.lst, .inr (.inr ⟨HD.out.1, by omega, by omega, vl, H2.out.2.2.2.2.2.2.2.1, .inl ⟨by rw [← H2.out.2.2.2.2.2.2.2.2.2.2]; exact hcb2, rfl, by rw [HN.out]⟩⟩), H3.out.trans (HE.out.2.mono H3.out.size)⟩
          · have hgt : decide (b < (cn : Int)) = false := by simpa using hcb2
            go_wp2_with fail
            clear d0 d1 d2 d3
            clear x0 x1 x2
            refine (slice_any s (.slice ca s.cons.length cc) va vc fa fc (cn : Int) vl fl _ H2.out.1.cons HC.out.2 HD.out.2.1 H2.out.2.2.2.1 H2.out.2.2.2.2.1 H2.out.2.2.2.2.2.1 H2.out.2.2.2.2.2.2.1).mono ?_
            rintro e W3 ⟨ra, rc, rfl, hc3, r3⟩
            have hsl := Sy.cut_slice (s := s) H2.out.2.2.2.2.2.2.2.2.1 H2.out.2.2.2.2.2.2.2.2.2.1
            have hck : chkCode (s.cut vl fl) = 0 := chkCode_ok.2 (Sy.cut_vld HD.out.2.1)
            have H3 := Lib.hid (And.intro (hc3 _ none (grownBy_refl _ _) (by simp)) (And.intro (H2.out.2.1.trans (r3.mono H2.out.2.1.size)) (And.intro hsl hck)))
            clear hc3 r3 hsl hck
            go_wp2_with fail
            refine (Solve_any (s.cut vl fl) _ _ H3.out.1 (Sy.cut_sm HC.out.2)).mono ?_
            rintro e W4 (⟨hbad, -⟩ | ⟨-, xa, xc, ya, yc, lu, lv, rfl, hpts, hsol, q4⟩)
            · exact absurd H3.out.2.2.2 hbad
            rw [show (s.cut vl fl).S.vars = s.S.vars from rfl, show (s.cut vl fl).S.sites = s.S.sites from rfl, show (s.cut vl fl).S.fields = s.S.fields from rfl] at hpts ⊢
            have hlu : lu.length = s.S.vars := hsol.1
            have hal : Below W4.heap.size W4 (W4.alloc (.cells #[.slice xa s.S.vars xc, .slice ya (s.S.sites * s.S.fields) yc] 41)) := (Below.refl _ _).alloc (Nat.le_refl _) _
            obtain ⟨⟨us, hgr⟩, -⟩ := hpts.below hal
            obtain ⟨ra2, rc2, -, ii1, -, hmm, hcs⟩ := grid_rd hgr hlu hn
            have hrow := (hcs _ hgr).1
            have hrI : Ints (W4.alloc (.cells #[.slice xa s.S.vars xc, .slice ya (s.S.sites * s.S.fields) yc] 41)) (.slice ra2 (nth lu n).length rc2) (nth lu n) := by
              have h := hgr.2.2 n (by rw [hlu]; exact hn)
              have e2 : nth us n = .slice ra2 (nth lu n).length rc2 := by
                obtain ⟨va9, vc9, e9, -, -, hc9, -⟩ := hgr.1.out1 sInt2
                simp only [Value.slice.injEq] at e9
                obtain ⟨rfl, he9, rfl⟩ := e9
                have h9 := hc9 n (by rw [hgr.2.1, hlu]; exact hn)
                rw [hrow] at h9
                simpa using h9.symm
              rw [e2] at h; exact h
            have hS1 : IsSol s.S n (nth lu n) := by
              have h1 := hsol.2.2.1 n hn
              obtain ⟨M, hM, hP, hm⟩ := h1
              refine ⟨M, hM, hP, fun y => (hm y).trans ?_⟩
              exact (H3.out.2.2.1.pts HD.out.2.1.ok hn (H2.out.2.2.2.2.2.2.2.2.1 n |>.1 ((H2.out.2.2.2.2.2.2.2.2.1 n).2 .root))).symm
            have hsm : (nth lu n).length ≤ 12 := (hS1.small HD.out.2.1.ok HC.out.2.bnd.sites).2
            have hb4 : Below W.heap.size W (W4.alloc (.cells #[.slice xa s.S.vars xc, .slice ya (s.S.sites * s.S.fields) yc] 41)) := ((H3.out.2.1.trans (q4.mono H3.out.2.1.size))).alloc (H3.out.2.1.trans (q4.mono H3.out.2.1.size)).size _
            obtain ⟨N, hN⟩ : ∃ N, N = s.S.vars := ⟨_, rfl⟩
            rw [← hN] at hrow ii1 hn hrI hb4 ⊢
            have H4 := Lib.hid (And.intro hrI (And.intro hS1 (And.intro hsm hb4)))
            clear hal hgr hlu hcs hrI hS1 hsm hb4 hsol hpts q4 hN hmm
            go_wp2_with fail
            refine (CloneI_any _ _ _ H4.out.1 (by have := H4.out.2.2.1; omega)).mono ?_
            rintro e W5 ⟨a5, c5, rfl, o5, q5⟩
            have H5 := Lib.hid (And.intro o5 (H4.out.2.2.2.trans (q5.mono H4.out.2.2.2.size)))
            clear o5 q5 hrow ii1
            go_wp2_with fail
            go_ret2
            refine ⟨a5, c5, nth lu n, 0, rfl, H5.out.1.lst, .inr (.inr ⟨HD.out.1, by omega, by omega, vl, H2.out.2.2.2.2.2.2.2.1, .inr ⟨by rw [← H2.out.2.2.2.2.2.2.2.2.2.2]; omega, rfl, by simpa using H4.out.2.1⟩⟩), H5.out.2⟩
  · have hz : (chkCode s != 0) = true := by simpa using h0
    have HZ := Lib.hid (dCode_bad (v := v) h0)
    have HZ0 := Lib.hid h0
    generalize hcd : chkCode s = code at *
    clear h0
    go_wp2_with fail
    go_ret2
    exact ⟨none, 0, [], code, rfl, Lst.nil _ _, .inl ⟨by rw [HZ.out]; exact HZ0.out, HZ.out.symm, rfl⟩, H1.out.2⟩
end Go.Proofs.Ytkfhopnolflchaa
