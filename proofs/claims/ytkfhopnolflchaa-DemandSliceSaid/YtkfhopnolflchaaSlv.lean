/- Contract of Solve. -/
import Derived.Test.YtkfhopnolflchaaAndW
import Derived.Test.YtkfhopnolflchaaChm
import Derived.Laws.ResultCell
namespace Go.Dfl
section
variable {α : Type} [Inhabited α] {f : α → Value} {P : Program} {t e : TypeId} {z : Value} {by8 : Nat}
/-- 'x[:k:k]'. -/
theorem Own.cutTo3 {w : World} {base : Nat} {v : Value} {l : List α} (ht : SliceOf P t e z 1 by8) (h : Own f w base e v l) (k : Nat) (hk : k ≤ l.length) :
    ∃ a c, (∀ (ik ik' : IntKind) (W : World), (Instr.slice t v none (some (.int ik (k : Int))) (some (.int ik' (k : Int)))).run P W = .ok (.slice a k c) W) ∧ (∀ q, (Value.slice a k c).ownBlock = some q → v.ownBlock = some q) ∧ ∀ W, Own f W base e v l → Lst f W (.slice a k c) (l.take k) := by
  obtain ⟨i, hi, _, hs, _⟩ := ht.info
  have hlt : (l.take k).length = k := by simp; omega
  obtain ⟨h1, ⟨rfl, h2⟩ | ⟨g, cap, cur, rfl, hg, hh, hc, hm, hsz, htk⟩⟩ := h
  · obtain rfl : k = 0 := by omega
    refine ⟨none, 0, fun ik ik' W => ?_, fun q hq => by simp [Value.ownBlock] at hq, fun W _ => by simpa using Lst.nil f W⟩
    simp [Instr.slice, run_underlying ht.und, Instr.sliceBounds, Instr.sliceBound, asIntOf, run_sizeOf _ hi]
  · refine ⟨some ⟨g, 0, none⟩, k, fun ik ik' W => ?_, fun q hq => hq, fun W ho => ⟨some ⟨g, 0, none⟩, k, by rw [hlt], by omega, by omega, fun j hj => ?_⟩⟩
    · have h1' : k ≤ cap := by omega
      simp [Instr.slice, run_underlying ht.und, Instr.sliceBounds, Instr.sliceBound, asIntOf, h1', run_sizeOf _ hi, Addr.add]
    · rw [hlt] at hj
      have := World.ownsRow.cellAt ho j (by omega)
      rw [nth_map f l j (by omega)] at this
      refine ⟨rfl, ?_, fun q hq => ?_⟩
      · exact World.block_lt_of_cell? W ⟨g, j, none⟩ this
      · obtain rfl : q = 0 := by omega
        show W.cell? ⟨g, 0 + j * 1 + 0, none⟩ = _
        rw [show 0 + j * 1 + 0 = j by omega, this]
        simp [nth, hj]
theorem Grid.grown {w w' : World} {v : Value} {vs : List Value} {ll : List (List α)} {row : Option Nat} (h : Grid f w v vs ll) (hg : w.grownBy w' row) (hne : ∀ k, Foot v vs k → row ≠ some k) : Grid f w' v vs ll := by
  obtain ⟨h1, h2, h3⟩ := h
  exact ⟨h1.grown hg fun _ k hk => hne k (.inl hk), h2, fun i hi => (h3 i hi).grown hg fun _ k hk => hne k (.inr ⟨i, by rw [h2]; exact hi, hk⟩)⟩
end
theorem nth_take {α : Type} [Inhabited α] (l : List α) (k i : Nat) (h : i < k) : nth (l.take k) i = nth l i := by simp [nth, h]
theorem nth_drop {α : Type} [Inhabited α] (l : List α) (k i : Nat) : nth (l.drop k) i = nth l (k + i) := by simp [nth]
end Go.Dfl
namespace Go.Proofs.Ytkfhopnolflchaa
open Go.RowKit Go.Dfl Go.And

set_option maxHeartbeats 800000 in
theorem CloneG_any (u : Value) (vs : List Value) (W : World) (h : Src (fun x : Value => x) W u vs) (h1 : ∀ y ∈ vs, y.oneCell' = true) (hl : vs.length ≤ 1000000) :
    Calls Try.prog 31 #[u] W fun e W' => ∃ a c, e = .returned (.slice a vs.length c) ∧ Lst (fun x : Value => x) W' (.slice a vs.length c) vs ∧ (∀ k, (Value.slice a vs.length c).ownBlock = some k → W.heap.size ≤ k) ∧ Below W.heap.size W W' := by
  have HS := Lib.hid h
  have hnil : ∀ (w : World) (a : Option Addr) (n c : Nat), (binOp .eql 39 (.slice a n c) (.slice none 0 0)).run Try.prog w = .ok (.bool a.isNone) w := fun w a n c => Lib.run_eql_slice_nil w _ _ a n c 0 0 Try.underlying39
  obtain ⟨a, c, rfl, h2, -⟩ := h
  cases a with
  | none =>
    have h0 := h2 rfl
    have hv : vs = [] := List.length_eq_zero_iff.1 h0
    subst hv
    clear h2 h0
    go_enter Try.func31, Try.ntmps31
    go_wp2_with fail
    go_ret
    exact ⟨none, 0, rfl, Lst.nil _ _, fun k hk => by simp [Value.ownBlock] at hk, Below.refl _ _⟩
  | some ad =>
    clear h2
    go_enter Try.func31, Try.ntmps31
    go_wp2_with (at_builtin; refine wp_appendS (f := fun x : Value => x) sInt2 rfl rfl _ _ rfl W.heap.size (.slice (some ⟨W.heap.size, 0, none⟩) 0 0) [] rfl (.slice (some ad) vs.length c) vs rfl (own_empty _ rfl (Nat.le_refl _)) (HS.out.grown (grownBy_alloc _ _) (by simp)) h1 (by simp; omega) (by omega) (by simp) ?_; intro v' W' ho hg hloc)
    obtain ⟨s9, c9, rfl⟩ := ho.shape (n := vs.length) (by simp)
    have hb : Below W.heap.size W W' := ((Below.refl W.heap.size W).alloc (Nat.le_refl _) _).grown hg (by simp) (by simp [Value.ownBlock])
    have HO := Lib.hid (And.intro ho hb)
    clear ho hg hloc hb
    go_wp2_with fail
    go_ret
    exact ⟨s9, c9, rfl, by simpa using HO.out.1.lst, fun k hk => (HO.out.1.lt k hk).1, HO.out.2⟩

theorem IsS.bel {rl : Nat → Nat} {W W' : World} {v : Value} {p : Nat → Bool} (h : IsS rl W v p) (hb : Below W.heap.size W W') : IsS rl W' v p := by
  obtain ⟨r, h1, h2⟩ := h
  exact ⟨r, h1.below hb, h2⟩
/-- A list of a least solution. -/
def IsSol (S : Syst) (i : Nat) (l : List Int) : Prop := ∃ L : List Nat, l = L.map (fun x : Nat => (x : Int)) ∧ L.Pairwise (· < ·) ∧ ∀ y, y ∈ L ↔ Pts S i y
/-- An assignment in memory. -/
def PtsIn (W : World) (u v : Value) (lu lv : List (List Int)) : Prop := (∃ vs, Grid (Value.int .i64) W u vs lu) ∧ ∃ vs, Grid (Value.int .i64) W v vs lv
/-- The least solution. -/
def Sol (S : Syst) (lu lv : List (List Int)) : Prop := lu.length = S.vars ∧ lv.length = S.sites * S.fields ∧ (∀ i, i < S.vars → IsSol S i (nth lu i)) ∧ ∀ i, i < S.sites * S.fields → IsSol S (S.vars + i) (nth lv i)
/-- What Solve returns. -/
def SolveR (s : Sy) (W : World) (e : Ending) (W' : World) : Prop :=
  (chkCode s ≠ 0 ∧ e = .returned (.tuple #[.agg #[.slice none 0 0, .slice none 0 0], .int .i64 (chkCode s)]) ∧ Below W.heap.size W W') ∨
  (chkCode s = 0 ∧ ∃ ua uc va vc lu lv, e = .returned (.tuple #[.agg #[.slice ua s.S.vars uc, .slice va (s.S.sites * s.S.fields) vc], .int .i64 0]) ∧ PtsIn W' (.slice ua s.S.vars uc) (.slice va (s.S.sites * s.S.fields) vc) lu lv ∧ Sol s.S lu lv ∧ Below W.heap.size W W')


set_option maxHeartbeats 6400000 in
set_option maxRecDepth 100000 in
theorem Solve_any (s : Sy) (cv : Value) (W : World) (hc : ConsIn W cv s.cons) (hs : Sm s) : Calls Try.prog 16 #[SysV s cv] W (SolveR s W) := by
  have HC := Lib.hid (And.intro hc hs)
  have g0 := grownBy_trans (grownBy_alloc W (.cells #[.int .i64 s.vars, .int .i64 s.sites, .int .i64 s.fields, cv] 24)) (grownBy_alloc _ (.cells #[.slice none 0 0, .slice none 0 0] 41))
  have b0 : Below W.heap.size W _ := ((Below.refl W.heap.size W).alloc (Nat.le_refl _) (.cells #[.int .i64 s.vars, .int .i64 s.sites, .int .i64 s.fields, cv] 24)).alloc (by simp) (.cells #[.slice none 0 0, .slice none 0 0] 41)
  have HG0 := Lib.hid (And.intro g0 b0)
  have hbs := (BoxS.new W s cv 24).grown (grownBy_alloc _ (.cells #[.slice none 0 0, .slice none 0 0] 41)) (by simp)
  have HBS := Lib.hid hbs
  clear g0 b0 hbs hc hs
  unfold SysV
  go_enter Try.func16, Try.ntmps16
  go_wp2_with fail
  refine (Check_any s cv _ (HC.out.1.below (HG0.out.2)) HC.out.2).mono ?_
  rintro e W1 ⟨rfl, q1⟩
  have g1 := grownBy_trans HG0.out.1 (grownBy_below q1)
  have be1 : Below W.heap.size W W1 := HG0.out.2.grown (grownBy_below q1) (by simp; omega) (by simp)
  obtain ⟨d0, d1, d2, d3⟩ := HBS.out.grown (grownBy_below q1) (by simp)
  have hp0 : W1.cell? ⟨W.heap.size + 1, 0, none⟩ = some (.slice none 0 0) ∧ W1.cell? ⟨W.heap.size + 1, 1, none⟩ = some (.slice none 0 0) ∧ W1.frozen? ⟨W.heap.size + 1, 0, none⟩ = false ∧ W1.frozen? ⟨W.heap.size + 1, 1, none⟩ = false := by
    have hb : W1.heap[W.heap.size + 1]? = some (.cells #[.slice none 0 0, .slice none 0 0] 41) := by
      rw [(grownBy_below q1).block (W.heap.size + 1) (by simp) (by simp)]
      have := heap_alloc_new (W.alloc (.cells #[.int .i64 s.vars, .int .i64 s.sites, .int .i64 s.fields, cv] 24)) (.cells #[.slice none 0 0, .slice none 0 0] 41)
      simpa using this
    refine ⟨by simp [World.cell?, hb], by simp [World.cell?, hb], by simp [World.frozen?, hb], by simp [World.frozen?, hb]⟩
  have H1 := Lib.hid (And.intro g1 be1)
  clear g1 be1 q1
  obtain ⟨p0, p1, f0, f1⟩ := hp0
  have bsz : W.heap.size + 1 < W1.heap.size := World.block_lt_of_cell? W1 ⟨W.heap.size + 1, 0, none⟩ p0
  by_cases h0 : chkCode s = 0
  · have hv := chkCode_ok.1 h0
    rw [h0]
    have HV := Lib.hid (And.intro h0 hv)
    clear h0
    go_wp2_with fail
    refine (solve_any s cv _ (HC.out.1.below H1.out.2) HV.out.2 HC.out.2).mono ?_
    rintro e W2 ⟨xa, xc, xs, p, rfl, hx, hxl, hxm, hxp, q2⟩
    have e1 : s.vars = (s.S.vars : Int) := (Int.toNat_of_nonneg HV.out.2.vars).symm
    have hB2 : Below W.heap.size W W2 := H1.out.2.grown (grownBy_below q2) H1.out.2.size (by simp)
    have hbN : s.S.N ≤ 100 := Bnd.N ⟨by have := HC.out.2.vars; show s.vars.toNat ≤ 40; omega, by have := HC.out.2.sites; show s.sites.toNat ≤ 12; omega, by have := HC.out.2.fields; show s.fields.toNat ≤ 5; omega, by show (s.cons.map R.C).length ≤ 101; rw [List.length_map]; exact HC.out.2.cons⟩
    obtain ⟨S, hS⟩ : ∃ S, S = s.S := ⟨_, rfl⟩
    rw [← hS] at hx hxl hxm hxp e1 hbN ⊢
    have HS := Lib.hid hS
    clear hS
    have d0' : W2.cell? ⟨W.heap.size, 0, none⟩ = some (.int .i64 (S.vars : Int)) := by rw [← e1]; exact (grownBy_below q2).cell d0 (by simp)
    have g2 := grownBy_below q2
    have p0' : W2.heap[W.heap.size + 1]? = W1.heap[W.heap.size + 1]? := g2.block _ bsz (by simp)
    have p2 : W2.cell? ⟨W.heap.size + 1, 0, none⟩ = some (.slice none 0 0) := g2.cell p0 (by simp)
    have p3 : W2.cell? ⟨W.heap.size + 1, 1, none⟩ = some (.slice none 0 0) := g2.cell p1 (by simp)
    have f2 : W2.frozen? ⟨W.heap.size + 1, 0, none⟩ = false := by rw [World.frozen?_of_block (a := ⟨W.heap.size + 1, 0, none⟩) p0']; exact f0
    have f3 : W2.frozen? ⟨W.heap.size + 1, 1, none⟩ = false := by rw [World.frozen?_of_block (a := ⟨W.heap.size + 1, 1, none⟩) p0']; exact f1
    have bs2 : W.heap.size + 1 < W2.heap.size := Nat.lt_of_lt_of_le bsz q2.size
    obtain ⟨xa2, xc2, he2, hxn, hxi, hxcell, hxb⟩ := hx.out1 sBits2
    simp only [Value.slice.injEq] at he2
    obtain ⟨rfl, -, rfl⟩ := he2
    rw [hxl] at hxn hxi hxcell hxb
    have HP := Lib.hid (And.intro p2 (And.intro p3 (And.intro f2 (And.intro f3 (And.intro d0' (And.intro hB2 (And.intro bs2 (And.intro hxm (And.intro hxp (And.intro hxcell hxb))))))))))
    clear p2 p3 f2 f3 d0' hB2 bs2 hxm hxp hxcell hxb p0 p1 f0 f1 d0 d1 d2 d3 g2 p0' bsz q2 hx hxl e1
    go_wp2_with (at_make; refine wp_make (f := fun x : Value => x) (.slice none 0 0) sInt2 rfl _ rfl _ _ rfl .i64 .i64 _ _ S.N rfl rfl rfl rfl (by omega) (by unfold maxLen; omega) ?_)
    intro la lc W3 o3 q3
    have hO3 : OwnN IInt W3 W2.heap.size 27 (.slice la S.N lc) (List.replicate S.N (.slice none 0 0)) (List.replicate S.N []) := OwnN.made o3 (Own.nil _ _ _ _)
    have H3 := Lib.hid (And.intro hO3 q3)
    obtain ⟨la2, lc2, he3, -, hli, -⟩ := o3.lst.out1 sInt2
    simp only [List.length_replicate, Value.slice.injEq] at he3
    obtain ⟨rfl, -, rfl⟩ := he3
    simp only [List.length_replicate] at hli
    clear hO3 q3 o3
    go_wp2_with fail
    go_loopw [7, 8, 22] (fun _ _ x wr => ∃ (k : Nat) (vs : List Value) (ll : List (List Int)), k ≤ S.N ∧ x = .int .i64 k ∧ Hid (OwnN IInt wr W2.heap.size 27 (.slice la S.N lc) vs ll ∧ ll.length = S.N ∧ (∀ i, i < k → IsSol S i (nth ll i)) ∧ Below W2.heap.size W2 wr)) (fun _ _ x _ => S.N - (intOf x).toNat)
    case atStart => exact ⟨0, _, _, by omega, rfl, H3.out.1, by simp, fun i hi => by omega, H3.out.2⟩
    case round =>
      obtain ⟨k, vs, ll, hk, rfl, hh⟩ := hrel
      by_cases hlt : k < S.N
      · have hck : wr.cell? ⟨blk xa, ofs xa + k, none⟩ = some (nth xs k) := by
          rw [hh.out.2.2.2.cell (p := ⟨blk xa, ofs xa + k, none⟩) (HP.out.2.2.2.2.2.2.2.2.2.2 k hlt)]
          exact HP.out.2.2.2.2.2.2.2.2.2.1 k hlt
        have hset : IsS (fun _ => 0) wr (nth xs k) _ := (HP.out.2.2.2.2.2.2.2.1 k hlt).bel hh.out.2.2.2
        have HSt := Lib.hid hset
        clear hset
        go_wp2_with fail
        refine (List_S HSt.out).mono ?_
        rintro e W5 ⟨a5, c5, L, rfl, o5, mL, pL, lL, q5⟩
        have g5 := grownBy_below q5
        have hO5 := hh.out.1.below kInt q5
        have hkl : k < ll.length := by rw [hh.out.2.1]; exact hlt
        have hkv : k < vs.length := by rw [hh.out.1.len]; exact hkl
        obtain ⟨la2, lc2, he3, -, -, hcl5, -⟩ := hO5.out.lst.out1 sInt2
        simp only [Value.slice.injEq] at he3
        obtain ⟨rfl, -, rfl⟩ := he3
        have hc5 := hcl5 k hkv
        have hf5 : W5.frozen? ⟨blk la, ofs la + k, none⟩ = false := hO5.out.frozen (by omega) _
        have hput := OwnN.put kInt hh.out.1 hkl (u := .slice a5 L.length c5) (l := L.map fun x : Nat => (x : Int)) (grownBy_widen g5) (o5.mono hh.out.2.2.2.size) (fun k hk => .inr (o5.lt k hk).1)
        have hbl : W2.heap.size ≤ blk la := (hh.out.1.out.blkge (by omega)).1
        have H5 := Lib.hid (And.intro hput (And.intro mL (And.intro pL ((hh.out.2.2.2.grown g5 hh.out.2.2.2.size (by simp)).setCell (show W2.heap.size ≤ (⟨blk la, ofs la + k, none⟩ : Addr).block from hbl) (.slice a5 L.length c5)))))
        clear hput mL pL o5 q5 g5 hO5 hcl5 hbl
        go_wp2_with fail
        go_roundw
        case rel => exact ⟨k + 1, _, _, by omega, by go_num, H5.out.1, by simp [hh.out.2.1], fun i hi => by
          rw [nth_set]
          by_cases e : k = i
          · subst e
            rw [if_pos ⟨rfl, hkl⟩]
            exact ⟨L, rfl, H5.out.2.2.1, fun y => (H5.out.2.1 y).symm.trans (HP.out.2.2.2.2.2.2.2.2.1 _ _)⟩
          · rw [if_neg (by omega)]
            exact hh.out.2.2.1 i (by omega), H5.out.2.2.2⟩
        case measure => simp [intOf]; omega
      · obtain rfl : k = S.N := by omega
        have hvN : S.vars ≤ vs.length := by rw [hh.out.1.len, hh.out.2.1]; unfold Syst.N; omega
        obtain ⟨ua, uc, hcut, hua, hlu⟩ := hh.out.1.out.cutTo3 sInt2 S.vars hvN
        obtain ⟨u2, hcut2, hub, hsrc⟩ := hh.out.1.out.cutFrom sInt2 S.vars hvN
        have hone : ∀ y ∈ vs, y.oneCell' = true := by
          intro y hy
          obtain ⟨i, hi, rfl⟩ := mem_nth hy
          obtain ⟨a9, c9, e9⟩ := (hh.out.1.inn i (by rw [← hh.out.1.len]; exact hi)).shape rfl
          rw [e9]; rfl
        have d0 : wr.cell? ⟨W.heap.size, 0, none⟩ = some (.int .i64 (S.vars : Int)) := by rw [hh.out.2.2.2.cell (p := ⟨W.heap.size, 0, none⟩) (by have := HP.out.2.2.2.2.2.2.1; show W.heap.size < W2.heap.size; omega)]; exact HP.out.2.2.2.2.1
        have hsr := hsrc wr hh.out.1.out
        have HQ := Lib.hid (And.intro hh.out (And.intro hlu (And.intro hsr (And.intro hone (And.intro hub hua)))))
        clear hua hlu hsrc hsr hone hub hh hvN
        go_wp2_with fail
        refine wp_region_mix [0, 1, 2, 3, 4, 5, 6, 7, 8, 9] [10, 11, 12, 13] (fun w' => w'.cell? ⟨W.heap.size, 0, none⟩ = some (.int .i64 (S.vars : Int))) (by kernel_rfl) (by kernel_rfl) (by kernel_rfl) d0 ?_
        repeat (
          refine wpHeads_cons (v := ?_) rfl (Or.inl ⟨by rfl, ?_⟩) ?_
          rotate_left
          · (intro W hW; go_simp; try with_reducible rfl)
          simp only [Act.put, List.setIfInBounds_toArray])
        refine wpHeads_nil ?_
        refine wpTails_cons rfl ?_
        go_wp2_with fail
        refine (CloneG_any u2 (vs.drop S.vars) _ (HQ.out.2.2.1.grown (grownBy_drew0 _) (by simp)) (fun y hy => HQ.out.2.2.2.1 y (List.mem_of_mem_drop hy)) (by have h1 := HQ.out.1.1.len; have h2 := HQ.out.1.2.1; simp; omega)).mono ?_
        rintro e W6 ⟨ya, yc, rfl, hy, hyb, q6⟩
        have hyl : (vs.drop S.vars).length = S.sites * S.fields := by
          have h1 := HQ.out.1.1.len
          have h2 := HQ.out.1.2.1
          rw [List.length_drop, h1, h2]; unfold Syst.N; omega
        rw [hyl] at hy hyb ⊢
        have g6 : wr.grownBy W6 none := grownBy_trans (grownBy_drew0 _) (grownBy_below q6)
        have b6 : Below W2.heap.size W2 W6 := HQ.out.1.2.2.2.grown g6 HQ.out.1.2.2.2.size (by simp)
        have hlt1 : W.heap.size + 1 < W2.heap.size := HP.out.2.2.2.2.2.2.1
        have p2 : W6.cell? ⟨W.heap.size + 1, 0, none⟩ = some (.slice none 0 0) := by rw [b6.cell (p := ⟨W.heap.size + 1, 0, none⟩) hlt1]; exact HP.out.1
        have p3 : W6.cell? ⟨W.heap.size + 1, 1, none⟩ = some (.slice none 0 0) := by rw [b6.cell (p := ⟨W.heap.size + 1, 1, none⟩) hlt1]; exact HP.out.2.1
        have hblk6 := b6.block (W.heap.size + 1) hlt1
        have f2 : W6.frozen? ⟨W.heap.size + 1, 0, none⟩ = false := by rw [World.frozen?_of_block (a := ⟨W.heap.size + 1, 0, none⟩) hblk6]; exact HP.out.2.2.1
        have f3 : W6.frozen? ⟨W.heap.size + 1, 1, none⟩ = false := by rw [World.frozen?_of_block (a := ⟨W.heap.size + 1, 1, none⟩) hblk6]; exact HP.out.2.2.2.1
        have dd : W6.cell? ⟨W.heap.size, 0, none⟩ = some (.int .i64 (S.vars : Int)) := g6.cell d0 (by simp)
        have H6 := Lib.hid (And.intro hy (And.intro g6 (And.intro b6 hyb)))
        clear hyb hy g6 b6 q6 hblk6 hyl
        go_wp2_with fail
        refine tail_mk dd ?_
        refine wpTails_cons rfl ?_
        go_wp2_with fail
        refine tail_mk dd ?_
        refine wpTails_cons rfl ?_
        go_wp2_with fail
        refine tail_mk (by simp [World.cell?_setCell_other, dd]) ?_
        refine wpTails_one rfl ?_
        go_wp2_with fail
        refine thenQ_mk ?_
        go_wp2_with fail
        (try simp only [Exit.inBlock, Exit.then])
        refine bodyPost_ret (v := .tuple #[.agg #[.slice ua S.vars uc, .slice ya (S.sites * S.fields) yc], .int .i64 0]) (by rw [results_cell_tmp rfl]; go_simp; try rfl) rfl ?_
        have gf := grownBy_trans (grownBy_setCell W6 ⟨W.heap.size + 1, 0, none⟩ (.slice ua S.vars uc)) (grownBy_setCell (W6.setCell ⟨W.heap.size + 1, 0, none⟩ (.slice ua S.vars uc)) ⟨W.heap.size + 1, 1, none⟩ (.slice ya (S.sites * S.fields) yc))
        have hOw := HQ.out.1.1.grown kInt H6.out.2.1 (by simp)
        have hfoot : ∀ k, Foot (.slice la S.N lc) vs k → W2.heap.size ≤ k := fun k hk => (hOw.foot kInt k hk).1
        have hl1 := HQ.out.1.1.len
        have hl2 := HQ.out.1.2.1
        have hNd : S.N = S.vars + S.sites * S.fields := rfl
        have G1 : Grid (Value.int .i64) W6 (.slice ua S.vars uc) (vs.take S.vars) (ll.take S.vars) := by
          refine ⟨HQ.out.2.1 W6 hOw.out, by simp [hl1], fun i hi => ?_⟩
          have hi' : i < S.vars ∧ i < ll.length := by simp at hi; omega
          rw [nth_take _ _ _ hi'.1, nth_take _ _ _ hi'.1]
          exact (hOw.inn i hi'.2).lst
        have G2 : Grid (Value.int .i64) W6 (.slice ya (S.sites * S.fields) yc) (vs.drop S.vars) (ll.drop S.vars) := by
          refine ⟨H6.out.1, by simp [hl1], fun i hi => ?_⟩
          have hi' : S.vars + i < ll.length := by simp at hi; omega
          rw [nth_drop, nth_drop]
          exact (hOw.inn _ hi').lst
        have G1' := G1.grown gf (fun k hk => by
          have : W2.heap.size ≤ k := by
            rcases hk with hk | ⟨i, hi, hk⟩
            · exact hfoot k (.inl (HQ.out.2.2.2.2.2 k hk))
            · have hi' : i < S.vars ∧ i < vs.length := by simp at hi; omega
              rw [nth_take _ _ _ hi'.1] at hk
              exact hfoot k (.inr ⟨i, hi'.2, hk⟩)
          simp; omega)
        have G2' := G2.grown gf (fun k hk => by
          have : W2.heap.size ≤ k := by
            rcases hk with hk | ⟨i, hi, hk⟩
            · have h1 := H6.out.2.2.2 k hk
              have h2 := HQ.out.1.2.2.2.size
              exact Nat.le_trans h2 h1
            · have hi' : S.vars + i < vs.length := by simp at hi; omega
              rw [nth_drop] at hk
              exact hfoot k (.inr ⟨_, hi', hk⟩)
          simp; omega)
        refine .inr ⟨HV.out.1, ua, uc, ya, yc, ll.take S.vars, ll.drop S.vars, by rw [← HS.out], by rw [← HS.out]; exact ⟨⟨_, G1'⟩, ⟨_, G2'⟩⟩, by rw [← HS.out]; exact ⟨by simp; omega, by simp; omega, fun i hi => by rw [nth_take _ _ _ hi]; exact HQ.out.1.2.2.1 i (by omega), fun i hi => by rw [nth_drop]; exact HQ.out.1.2.2.1 _ (by omega)⟩, ?_⟩
        have hb6 : Below W.heap.size W W6 := HP.out.2.2.2.2.2.1.trans (H6.out.2.2.1.mono (by omega))
        exact (hb6.setCell (show W.heap.size ≤ (⟨W.heap.size + 1, 0, none⟩ : Addr).block by simp) _).setCell (show W.heap.size ≤ (⟨W.heap.size + 1, 1, none⟩ : Addr).block by simp) _
  · have hz : (chkCode s != 0) = true := by simpa using h0
    have HZ := Lib.hid h0
    generalize hcd : chkCode s = code at *
    have HCD := Lib.hid hcd
    clear hcd h0
    go_wp2_with fail
    (try simp only [Exit.inBlock, Exit.then])
    refine bodyPost_ret (v := .tuple #[.agg #[.slice none 0 0, .slice none 0 0], .int .i64 code]) (by rw [results_cell_tmp rfl]; go_simp; try rfl) rfl ?_
    refine .inl ⟨by rw [HCD.out]; exact HZ.out, by rw [HCD.out], ?_⟩
    exact (H1.out.2.setCell (show W.heap.size ≤ (⟨W.heap.size + 1, 0, none⟩ : Addr).block by simp) _).setCell (show W.heap.size ≤ (⟨W.heap.size + 1, 1, none⟩ : Addr).block by simp) _
end Go.Proofs.Ytkfhopnolflchaa
