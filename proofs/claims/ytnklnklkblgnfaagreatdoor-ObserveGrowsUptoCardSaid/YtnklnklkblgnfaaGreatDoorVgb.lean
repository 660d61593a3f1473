/- Texts of the claim, merged. -/
import Derived.Laws.OwnMore
import Derived.Test.YtnklnklkblgnfaaGreatDoorVga
section
namespace Go.Hir
def kwl : List ByteArray := [⟨#[99, 108, 97, 115, 115]⟩, ⟨#[101, 120, 116, 101, 110, 100, 115]⟩, ⟨#[118, 97, 114]⟩, ⟨#[100, 101, 102]⟩, ⟨#[115, 116, 97, 116, 105, 99]⟩, ⟨#[105, 102]⟩, ⟨#[101, 108, 115, 101]⟩, ⟨#[119, 104, 105, 108, 101]⟩, ⟨#[116, 114, 121]⟩, ⟨#[99, 97, 116, 99, 104]⟩, ⟨#[116, 104, 114, 111, 119]⟩, ⟨#[114, 101, 116, 117, 114, 110]⟩, ⟨#[110, 101, 119]⟩, ⟨#[110, 117, 108, 108]⟩, ⟨#[116, 104, 105, 115]⟩, ⟨#[105, 110, 112, 117, 116]⟩, ⟨#[105, 110, 116]⟩]
end Go.Hir
namespace Go.Proofs.YtnklnklkblgnfaaGreatDoor
open Go.RowKit Go.Dfl Go.Obs Go.Hir
open Go.Gra (gen_code gen_calls)
def AnyB (W : World) (e : Ending) (W' : World) : Prop := (∃ b, e = .returned (.bool b)) ∧ W = W'
set_option maxHeartbeats 800000 in
theorem rLetter_any (c : Int) (W : World) : Calls Tryz.prog 133 #[.int .u8 c] W (AnyB W) := by
 go_enter Tryz.func133, Tryz.ntmps133
 go_wp2_with fail
 all_goals (go_ret; exact ⟨⟨_, rfl⟩, rfl⟩)
set_option maxHeartbeats 800000 in
theorem rDigit_any (c : Int) (W : World) : Calls Tryz.prog 150 #[.int .u8 c] W (AnyB W) := by
 go_enter Tryz.func150, Tryz.ntmps150
 go_wp2_with fail
 all_goals (go_ret; exact ⟨⟨_, rfl⟩, rfl⟩)
set_option maxHeartbeats 800000 in
theorem rPart_any (c : Int) (W : World) : Calls Tryz.prog 135 #[.int .u8 c] W (AnyB W) := by
 go_enter Tryz.func135, Tryz.ntmps135
 go_wp2_with fail
 refine (rLetter_any c W).mono ?_
 rintro e w1 ⟨⟨b1, rfl⟩, rfl⟩
 cases b1
 ·go_wp2_with fail
  refine (rDigit_any c W).mono ?_
  rintro e w1 ⟨⟨b2, rfl⟩, rfl⟩
  cases b2
  ·go_wp2_with fail
   all_goals (go_ret; exact ⟨⟨_, rfl⟩, rfl⟩)
  ·go_wp2_with fail
   all_goals (go_ret; exact ⟨⟨_, rfl⟩, rfl⟩)
 ·go_wp2_with fail
  all_goals (go_ret; exact ⟨⟨_, rfl⟩, rfl⟩)
set_option maxHeartbeats 1600000 in
theorem rKeyword_any (s : ByteArray) (W : World) : Calls Tryz.prog 134 #[.string s] W fun e W' => e = .returned (.bool (decide (s ∈ kwl))) ∧ Below W.heap.size W W' := by
 have HE := Lib.hid ((Env.refl W).alloc [.string ⟨#[99, 108, 97, 115, 115]⟩, .string ⟨#[101, 120, 116, 101, 110, 100, 115]⟩, .string ⟨#[118, 97, 114]⟩, .string ⟨#[100, 101, 102]⟩, .string ⟨#[115, 116, 97, 116, 105, 99]⟩, .string ⟨#[105, 102]⟩, .string ⟨#[101, 108, 115, 101]⟩, .string ⟨#[119, 104, 105, 108, 101]⟩, .string ⟨#[116, 114, 121]⟩, .string ⟨#[99, 97, 116, 99, 104]⟩, .string ⟨#[116, 104, 114, 111, 119]⟩, .string ⟨#[114, 101, 116, 117, 114, 110]⟩, .string ⟨#[110, 101, 119]⟩, .string ⟨#[110, 117, 108, 108]⟩, .string ⟨#[116, 104, 105, 115]⟩, .string ⟨#[105, 110, 112, 117, 116]⟩, .string ⟨#[105, 110, 116]⟩] 9)
 go_enter Tryz.func134, Tryz.ntmps134
 go_wp2_with fail
 refine gen_code (fun Z => Env W [fkC W.heap.size [.string ⟨#[99, 108, 97, 115, 115]⟩, .string ⟨#[101, 120, 116, 101, 110, 100, 115]⟩, .string ⟨#[118, 97, 114]⟩, .string ⟨#[100, 101, 102]⟩, .string ⟨#[115, 116, 97, 116, 105, 99]⟩, .string ⟨#[105, 102]⟩, .string ⟨#[101, 108, 115, 101]⟩, .string ⟨#[119, 104, 105, 108, 101]⟩, .string ⟨#[116, 114, 121]⟩, .string ⟨#[99, 97, 116, 99, 104]⟩, .string ⟨#[116, 104, 114, 111, 119]⟩, .string ⟨#[114, 101, 116, 117, 114, 110]⟩, .string ⟨#[110, 101, 119]⟩, .string ⟨#[110, 117, 108, 108]⟩, .string ⟨#[116, 104, 105, 115]⟩, .string ⟨#[105, 110, 112, 117, 116]⟩, .string ⟨#[105, 110, 116]⟩]] Z) HE.out ?_
 intro Z hZ
 obtain ⟨b, hb⟩ : ∃ b, b = W.heap.size := ⟨_, rfl⟩
 rw [← hb] at hZ ⊢
 have hc : ∀ j, j < 17 → Z.cell? ⟨b, j, none⟩ = some (.string (nth kwl j)) := fun j hj => by
  match j, hj with
  | 0, _ => exact hZ.cell 0 rfl 0 rfl
  | 1, _ => exact hZ.cell 0 rfl 1 rfl
  | 2, _ => exact hZ.cell 0 rfl 2 rfl
  | 3, _ => exact hZ.cell 0 rfl 3 rfl
  | 4, _ => exact hZ.cell 0 rfl 4 rfl
  | 5, _ => exact hZ.cell 0 rfl 5 rfl
  | 6, _ => exact hZ.cell 0 rfl 6 rfl
  | 7, _ => exact hZ.cell 0 rfl 7 rfl
  | 8, _ => exact hZ.cell 0 rfl 8 rfl
  | 9, _ => exact hZ.cell 0 rfl 9 rfl
  | 10, _ => exact hZ.cell 0 rfl 10 rfl
  | 11, _ => exact hZ.cell 0 rfl 11 rfl
  | 12, _ => exact hZ.cell 0 rfl 12 rfl
  | 13, _ => exact hZ.cell 0 rfl 13 rfl
  | 14, _ => exact hZ.cell 0 rfl 14 rfl
  | 15, _ => exact hZ.cell 0 rfl 15 rfl
  | 16, _ => exact hZ.cell 0 rfl 16 rfl
  | j + 17, hj => omega
 have HZ := Lib.hid (And.intro hZ.bel hc)
 clear hZ hc hb HE
 go_loop [4] (fun x => ∃ k : Nat, k ≤ 17 ∧ x = .int .i64 (k : Int) ∧ Hid (∀ j, j < k → nth kwl j ≠ s)) (fun x => 17 - (intOf x).toNat)
 case atStart => exact ⟨0, by omega, rfl, fun j hj => by omega⟩
 case round =>
  obtain ⟨k, hk, rfl, hh⟩ := hrel
  by_cases hlt : k < 17
  ·have o0 := HZ.out.2 k hlt
   obtain ⟨y, hy⟩ : ∃ y, y = nth kwl k := ⟨_, rfl⟩
   rw [← hy] at o0
   by_cases e : y = s
   ·have t0 := tl_eq e
    have HF := Lib.hid (show decide (s ∈ kwl) = true by rw [decide_eq_true_eq, ← e, hy]; exact nth_mem _ _ hlt)
    clear e hy
    go_wp2_with fail
    go_ret
    exact ⟨by rw [HF.out]; try rfl, HZ.out.1⟩
   ·have t0 := tl_ne e
    have hh2 : Hid (∀ j, j < k + 1 → nth kwl j ≠ s) := Lib.hid fun j hj => by
     by_cases e2 : j = k
     ·rw [e2, ← hy]; exact e
     ·exact hh.out j (by omega)
    clear e hy
    go_wp2_with fail
    go_round
    case rel => exact ⟨k + 1, by omega, by go_num, hh2⟩
    case measure => simp [intOf]; omega
  ·obtain rfl : k = 17 := by omega
   have HF := Lib.hid (show decide (s ∈ kwl) = false by
    rw [decide_eq_false_iff_not]
    intro hm
    obtain ⟨j, hj, e⟩ := mem_nth hm
    exact hh.out j hj e)
   clear hlt hk
   go_wp2_with fail
   go_ret
   exact ⟨by rw [HF.out]; try rfl, HZ.out.1⟩
def IdentR (s : ByteArray) (W : World) (e : Ending) (W' : World) : Prop := ∃ b : Bool, e = .returned (.bool b) ∧ (b = true → s ≠ ⟨#[]⟩ ∧ s ∉ kwl) ∧ Below W.heap.size W W'
set_option maxHeartbeats 1600000 in
theorem rIdent_any (s : ByteArray) (W : World) (hs : s.size ≤ maxLen) : Calls Tryz.prog 108 #[.string s] W (IdentR s W) := by
 unfold maxLen at hs
 by_cases h0 : s = ⟨#[]⟩
 ·have t0 := tl_eq h0
  have t1 : s.toList.isEmpty = true := by rw [h0, ByteArray.toList_eq]; rfl
  clear h0
  go_enter Tryz.func108, Tryz.ntmps108
  go_wp2_with fail
  go_ret
  exact ⟨false, rfl, (fun h => by cases h), Below.refl _ _⟩
 ·have t0 := tl_ne h0
  have t1 : s.toList.isEmpty = false := by
   cases e : s.toList with
   | nil => exact absurd (by rw [ByteArray.toList_eq] at e; exact Go.WideShapes.bytes_inj e) h0
   | cons x l => rfl
  have hpos : 0 < s.size := by
   rcases Nat.eq_zero_or_pos s.size with h | h
   ·exfalso; apply h0; exact ByteArray.ext (Array.eq_empty_of_size_eq_zero h)
   ·exact h
  have H0 := Lib.hid h0
  clear h0
  by_cases h32 : s.size ≤ 32
  ·have t2 : decide (32 < (s.size : Int)) = false := by simp; omega
   go_enter Tryz.func108, Tryz.ntmps108
   go_wp2_with fail
   refine (rLetter_any _ _).mono ?_
   rintro e w1 ⟨⟨b1, rfl⟩, rfl⟩
   cases b1
   ·go_wp2_with fail
    go_ret
    exact ⟨false, rfl, (fun h => by cases h), Below.refl _ _⟩
   ·go_wp2_with fail
    refine (rKeyword_any s _).mono ?_
    rintro e W2 ⟨rfl, q2⟩
    have H2 := Lib.hid q2
    clear q2
    by_cases hk : s ∈ kwl
    ·rw [decide_eq_true hk]
     clear hk
     go_wp2_with fail
     go_ret
     exact ⟨false, rfl, (fun h => by cases h), H2.out⟩
    ·rw [decide_eq_false hk]
     have HK := Lib.hid (And.intro H0.out hk)
     clear hk
     go_wp2_with fail
     go_loop [3] (fun x => ∃ k : Nat, k ≤ s.size ∧ x = .int .i64 (k : Int)) (fun x => s.size - (intOf x).toNat)
     case atStart => exact ⟨0, by omega, rfl⟩
     case round =>
      obtain ⟨k, hk, rfl⟩ := hrel
      by_cases hlt : k < s.size
      ·go_wp2_with fail
       refine (rPart_any _ _).mono ?_
       rintro e w3 ⟨⟨b3, rfl⟩, rfl⟩
       cases b3
       ·go_wp2_with fail
        go_ret
        exact ⟨false, rfl, (fun h => by cases h), H2.out⟩
       ·go_wp2_with fail
        go_round
        case rel => exact ⟨k + 1, by omega, by go_num⟩
        case measure => simp [intOf]; omega
      ·obtain rfl : k = s.size := by omega
       clear hlt hk
       go_wp2_with fail
       go_ret
       exact ⟨true, rfl, fun _ => HK.out, H2.out⟩
  ·have t2 : decide (32 < (s.size : Int)) = true := by simp; omega
   go_enter Tryz.func108, Tryz.ntmps108
   go_wp2_with fail
   go_ret
   exact ⟨false, rfl, (fun h => by cases h), Below.refl _ _⟩
end Go.Proofs.YtnklnklkblgnfaaGreatDoor
end
section
namespace Go.Dfl
open Go.RowKit
theorem InS.rest {α : Type} [Inhabited α] {V : Vw α} {P : Program} {t e : TypeId} {z : Value} {by8 : Nat} {w : World} {v : Value} {l : List α} (ht : SliceOf P t e z V.sz by8) (_hV : 0 < V.sz) (h : InS V w v l) {k : Nat} (hk : k ≤ l.length) (hl : 0 < l.length) :
  ∃ a c, (∀ (W : World), (Instr.slice t v (some (.int .i64 (k : Int))) none none).run P W = .ok (.slice a (l.length - k) c) W) ∧ InS V w (.slice a (l.length - k) c) (l.drop k) := by
 obtain ⟨i, hi, _, hs, _⟩ := ht.info
 have hlt : (l.drop k).length = l.length - k := by simp
 obtain ⟨c, ⟨a0, cap, rfl, h1, h2, h3⟩, h4⟩ := h
 obtain ⟨ha, hb, -⟩ := h3 0 (by omega)
 obtain ⟨b, o, rfl⟩ : ∃ b o, a0 = some ⟨b, o, none⟩ := ⟨_, _, ha⟩
 have hce : P.cellsOf e = V.sz := by simp [Program.cellsOf, hi, hs]
 refine ⟨some ⟨b, if cap = k then o else o + k * V.sz, none⟩, cap - k, fun W => ?_, fun i j => c (k + i) j, ⟨some ⟨b, if cap = k then o else o + k * V.sz, none⟩, cap - k, by rw [hlt], by omega, by omega, fun j hj => ?_⟩, fun i hi => ?_⟩
 ·simp [Instr.slice, run_underlying ht.und, Instr.sliceBounds, Instr.sliceBound, asIntOf, hk, run_sizeOf _ hi, Addr.add, hce]
  by_cases hck : cap = k
  ·simp [hck]
  ·simp [hck]
 ·rw [hlt] at hj
  obtain ⟨-, h6, h7⟩ := h3 (k + j) (by omega)
  rw [if_neg (by omega)]
  refine ⟨rfl, h6, fun q hq => ?_⟩
  have h8 := h7 q hq
  rw [show blk (some (⟨b, o + k * V.sz, none⟩ : Addr)) = b from rfl, show ofs (some (⟨b, o + k * V.sz, none⟩ : Addr)) = o + k * V.sz from rfl]
  rw [show blk (some (⟨b, o, none⟩ : Addr)) = b from rfl, show ofs (some (⟨b, o, none⟩ : Addr)) = o from rfl] at h8
  rw [show o + k * V.sz + j * V.sz + q = o + (k + j) * V.sz + q by rw [Nat.add_mul]; omega]
  exact h8
 ·rw [hlt] at hi
  have h9 := h4 (k + i) (by omega)
  rw [nth_eq _ _ (show i < (l.drop k).length by rw [hlt]; exact hi), List.getElem_drop, ← nth_eq _ _ (show k + i < l.length by omega)]
  exact h9
end Go.Dfl
namespace Go.Proofs.YtnklnklkblgnfaaGreatDoor
open Go.RowKit Go.Dfl Go.Obs Go.Hir
open Go.Gra (gen_code gen_calls)
def UpR (cs : List Cl) (c : ByteArray) (W : World) (e : Ending) (W' : World) : Prop := ∃ a k, e = .returned (.slice a (sups cs c).tail.length k) ∧ InS vS W' (.slice a (sups cs c).tail.length k) (sups cs c).tail ∧ Below W.heap.size W W'
set_option maxHeartbeats 1600000 in
theorem rUp_any (cs : List Cl) (hv : Value) (c : ByteArray) (W : World) (h : InS vCl W hv cs) (hl : cs.length ≤ 1000000) : Calls Tryz.prog 153 #[.agg #[hv], .string c] W (UpR cs c W) := by
 obtain ⟨ha, hc, rfl⟩ := h.shape
 have HE := Lib.hid (And.intro ((Env.refl W).alloc [.slice ha cs.length hc] 24) h)
 clear h
 go_enter Tryz.func153, Tryz.ntmps153
 go_wp2_with fail
 refine (rSupers_any cs _ c _ (HE.out.2.below HE.out.1.bel) hl).mono ?_
 rintro e W1 ⟨a, k, rfl, h1, b1⟩
 obtain ⟨l, hls⟩ : ∃ l, l = sups cs c := ⟨_, rfl⟩
 rw [← hls] at h1 ⊢
 have H1 := Lib.hid (And.intro (HE.out.1.below b1).bel hls)
 clear b1 HE hls
 by_cases h0 : l.length = 0
 ·have hnil : l = [] := List.eq_nil_of_length_eq_zero h0
  subst hnil
  have HN := Lib.hid (show (sups cs c).tail = [] by rw [← H1.out.2]; rfl)
  clear h0 h1
  go_wp2_with fail
  go_ret
  exact ⟨none, 0, by rw [HN.out]; rfl, by rw [HN.out]; exact InS.nil _ _, H1.out.1⟩
 ·obtain ⟨a2, k2, hr, hi⟩ := InS.rest sStr (by decide) h1 (k := 1) (by omega) (by omega)
  have t0 : ((l.length : Int) == 0) = false := by simpa using h0
  have hdt : l.drop 1 = (sups cs c).tail := by rw [H1.out.2]; simp
  obtain ⟨n, hn⟩ : ∃ n, n = l.length - 1 := ⟨_, rfl⟩
  rw [hdt] at hi
  rw [← hn] at hi hr
  have hlen : (sups cs c).tail.length = n := by rw [← H1.out.2, hn]; simp
  have HI := Lib.hid (And.intro hi hlen)
  have hr1 : ∀ W, (Instr.slice 113 (.slice a l.length k) (some (.int .i64 1)) none none).run Tryz.prog W = .ok (.slice a2 n k2) W := hr
  clear hr
  clear hi hdt hn h0 hlen h1
  go_wp2_with fail
  go_ret
  exact ⟨a2, k2, by rw [HI.out.2]; rfl, by rw [HI.out.2]; exact HI.out.1, H1.out.1⟩
instance (a b : Sg) : Decidable (SameS a b) := by unfold SameS; infer_instance
set_option maxHeartbeats 3200000 in
theorem rSameSig_any (x y : Sg) (xv yv : Value) (W : World) (hx : InS vS W xv x.ps) (hy : InS vS W yv y.ps) :
  Calls Tryz.prog 154 #[sgV x xv, sgV y yv] W fun e W' => e = .returned (.bool (decide (SameS x y))) ∧ Below W.heap.size W W' := by
 obtain ⟨xa, xc, rfl, hxl, hxi, hxc⟩ := InS.strs hx
 obtain ⟨ya, yc, rfl, hyl, hyi, hyc⟩ := InS.strs hy
 have HE := Lib.hid (((Env.refl W).alloc [.string x.n, .bool x.st, .slice xa x.ps.length xc, .string x.r] 115).alloc [.string y.n, .bool y.st, .slice ya y.ps.length yc, .string y.r] 115)
 have HC := Lib.hid (And.intro (And.intro hxi hxc) (And.intro hyi hyc))
 clear hx hy hxi hxc hyi hyc
 unfold sgV
 by_cases hlen : x.ps.length = y.ps.length
 ·have t0 : ((x.ps.length : Int) != (y.ps.length : Int)) = false := by simp; omega
  have t1 : (x.ps.length != y.ps.length) = false := by simp; omega
  by_cases hr : x.r = y.r
  ·have t2 := tn_eq hr
   have t3 := tl_eq hr
   have HR := Lib.hid (And.intro hr hlen)
   clear hr hlen
   go_enter Tryz.func154, Tryz.ntmps154
   go_wp2_with fail
   refine gen_code (fun Z => Env W [fkC (W.heap.size + 1) [.string y.n, .bool y.st, .slice ya y.ps.length yc, .string y.r], fkC W.heap.size [.string x.n, .bool x.st, .slice xa x.ps.length xc, .string x.r]] Z) (by have h := HE.out; rw [World.size_alloc] at h; exact h) ?_
   intro Z hZ
   obtain ⟨bx, hbx⟩ : ∃ b, b = W.heap.size := ⟨_, rfl⟩
   obtain ⟨by2, hby⟩ : ∃ b, b = W.heap.size + 1 := ⟨_, rfl⟩
   rw [← hby, ← hbx] at hZ ⊢
   have HZ := Lib.hid hZ
   clear hZ hbx hby HE t0 t1 t2 t3
   go_loopw [5] (fun z wr => ∃ k : Nat, k ≤ x.ps.length ∧ z = .int .i64 (k : Int) ∧ Hid ((∀ j, j < k → nth x.ps j = nth y.ps j) ∧ Env W [fkC by2 [.string y.n, .bool y.st, .slice ya y.ps.length yc, .string y.r], fkC bx [.string x.n, .bool x.st, .slice xa x.ps.length xc, .string x.r]] wr)) (fun z _ => x.ps.length - (intOf z).toNat)
   case atStart => exact ⟨0, by omega, rfl, fun j hj => by omega, HZ.out⟩
   case round =>
    clear HZ
    obtain ⟨k, hk, rfl, hh⟩ := hrel
    have d0 := hh.out.2.cell 0 rfl 2 rfl
    have d1 := hh.out.2.cell 1 rfl 2 rfl
    by_cases hlt : k < x.ps.length
    ·have hki : (k : Int) < (x.ps.length : Int) := by omega
     have hky : (k : Int) < (y.ps.length : Int) := by have := HR.out.2; omega
     obtain ⟨-, -, zx⟩ := HC.out.1.2 k hlt
     obtain ⟨-, -, zy⟩ := HC.out.2.2 k (by have := HR.out.2; omega)
     have p0 := zx wr hh.out.2.bel
     have p1 := zy wr hh.out.2.bel
     have j0 := HC.out.1.1 (k : Int) (by omega) (by omega)
     have j1 := HC.out.2.1 (k : Int) (by omega) (by omega)
     rw [Int.toNat_natCast] at j0 j1
     clear zx zy
     by_cases e : nth x.ps k = nth y.ps k
     ·have t0 := tn_eq e
      have t1 := tl_eq e
      have hh2 : Hid (∀ j, j < k + 1 → nth x.ps j = nth y.ps j) := Lib.hid fun j hj => by
       by_cases e2 : j = k
       ·rw [e2]; exact e
       ·exact hh.out.1 j (by omega)
      clear e
      go_wp2_with fail
      go_quiet (fail)
      go_wp2_with fail
      go_roundw
      case rel => exact ⟨k + 1, by omega, by go_num, hh2.out, hh.out.2.below (qt_below (Qt.drewN _ _))⟩
      case measure => simp [intOf]; omega
     ·have t0 := tn_ne e
      have t1 := tl_ne e
      have HF := Lib.hid (show decide (SameS x y) = false from decide_eq_false fun h => e (by rw [h.1]))
      clear e
      go_wp2_with fail
      go_quiet (fail)
      go_wp2_with fail
      go_ret
      exact ⟨by rw [HF.out]; rfl, (hh.out.2.below (qt_below (Qt.drewN _ _))).bel⟩
    ·obtain rfl : k = x.ps.length := by omega
     have HF := Lib.hid (show decide (SameS x y) = true from decide_eq_true ⟨nth_ext HR.out.2 fun j hj => hh.out.1 j hj, HR.out.1⟩)
     clear hlt hk
     go_wp2_with fail
     go_ret
     exact ⟨by rw [HF.out]; rfl, hh.out.2.bel⟩
  ·have t2 := tn_ne hr
   have t3 := tl_ne hr
   have HR := Lib.hid (show decide (SameS x y) = false from decide_eq_false fun h => hr h.2)
   clear hr hlen
   go_enter Tryz.func154, Tryz.ntmps154
   go_wp2_with fail
   go_ret
   exact ⟨by rw [HR.out]; rfl, HE.out.bel⟩
 ·have t0 : ((x.ps.length : Int) != (y.ps.length : Int)) = true := by simp; omega
  have t1 : (x.ps.length != y.ps.length) = true := by simp; omega
  have HR := Lib.hid (show decide (SameS x y) = false from decide_eq_false fun h => hlen (by rw [h.1]))
  clear hlen
  go_enter Tryz.func154, Tryz.ntmps154
  go_wp2_with fail
  go_ret
  exact ⟨by rw [HR.out]; rfl, HE.out.bel⟩
end Go.Proofs.YtnklnklkblgnfaaGreatDoor
end
section
namespace Go.Hir
open Go.Dfl (nth nth_mem mem_nth nth_eq nth_ext take_snoc nth_set nth_append nth_out)
open Go.Obs
def Comp (t s : Sg) : Prop := t.n = s.n → t.st = false ∧ s.st = false ∧ SameS t s
end Go.Hir
namespace Go.Dfl
open Go.RowKit
theorem cls_bel {P : Program} {f : FuncId} {args : Array Value} {W : World} {v : Value} {Cls : World → Prop} (hB : ∀ Z', Below W.heap.size W Z' → Cls Z') (h : Calls P f args W fun e w' => e = .returned v ∧ Below W.heap.size W w') :
  Calls P f args W fun e w'' => e = .returned v ∧ ∃ q : Wd Cls, w'' = q.val := class_of (h.mono fun _ _ ⟨he, hb⟩ => ⟨he, hB _ hb⟩)
end Go.Dfl
namespace Go.Proofs.YtnklnklkblgnfaaGreatDoor
open Go.RowKit Go.Dfl Go.Obs Go.Hir
open Go.Gra (gen_code gen_calls)
def OverR (cs : List Cl) (c : ByteArray) (s : Sg) (W : World) (e : Ending) (W' : World) : Prop := ∃ b : Bool, e = .returned (.bool b) ∧ (b = false → ∀ d ∈ (sups cs c).tail, ∀ t ∈ (clOf cs d).ms, Comp t s) ∧ Below W.heap.size W W'
set_option maxHeartbeats 6400000 in
theorem rOverrides_any (cs : List Cl) (hv : Value) (c : ByteArray) (s : Sg) (sv : Value) (W : World) (h : InS vCl W hv cs) (hsv : InS vS W sv s.ps) (hl : cs.length ≤ 1000000) :
  Calls Tryz.prog 149 #[.agg #[hv], .string c, sgV s sv] W (OverR cs c s W) := by
 obtain ⟨ha, hc, rfl, hlen, hidx, hcell⟩ := InS.cl h
 obtain ⟨pa, pc, rfl⟩ := hsv.shape
 obtain ⟨pn, hpn⟩ : ∃ pn, pn = s.ps.length := ⟨_, rfl⟩
 rw [← hpn] at hsv ⊢
 have HPN := Lib.hid hpn
 clear hpn
 have HE := Lib.hid (And.intro (((Env.refl W).alloc [.slice ha cs.length hc] 24).alloc [.string s.n, .bool s.st, .slice pa pn pc, .string s.r] 115) (And.intro hsv (show W.heap.size + 2 ≤ ((W.alloc (.cells #[.slice ha cs.length hc] 24)).alloc (.cells #[.string s.n, .bool s.st, .slice pa pn pc, .string s.r] 115)).heap.size by rw [World.size_alloc, World.size_alloc]; omega)))
 have HC := Lib.hid (And.intro hidx (And.intro hcell h))
 clear h hidx hcell hsv
 unfold sgV
 go_enter Tryz.func149, Tryz.ntmps149
 go_wp2_with fail
 refine (rUp_any cs _ c _ (HC.out.2.2.below HE.out.1.bel) hl).mono ?_
 rintro e W1 ⟨la, lc, rfl, h1, b1⟩
 obtain ⟨l, hls⟩ : ∃ l, l = (sups cs c).tail := ⟨_, rfl⟩
 rw [← hls] at h1 ⊢
 obtain ⟨b, hb⟩ : ∃ b, b = W.heap.size := ⟨_, rfl⟩
 obtain ⟨bs, hbs⟩ : ∃ bs, bs = W.heap.size + 1 := ⟨_, rfl⟩
 have h0 := HE.out.1
 rw [World.size_alloc] at h0
 have H1 := Lib.hid (((h0.below b1).add (q := fkI vS (.slice la l.length lc) l) h1).sub (M := [fkC W.heap.size [.slice ha cs.length hc], fkI vS (.slice la l.length lc) l, fkC (W.heap.size + 1) [.string s.n, .bool s.st, .slice pa pn pc, .string s.r]]) (by simp))
 rw [← hbs, ← hb] at H1
 rw [← hbs, ← hb]
 have HL := Lib.hid (And.intro (show ∀ x ∈ l, isC cs x from fun x hx => sups_isC (c := c) (List.mem_of_mem_tail (by rw [hls] at hx; exact hx))) (And.intro hls HE.out.2.1))
 have hlen2 : l.length ≤ 9223372036854775807 := by obtain ⟨_, _, -, h, -⟩ := InS.strs h1; exact h
 clear h1 b1 hls hb hbs HE h0
 go_wp2_with fail
 go_loopw [8] (fun x wr => ∃ k : Nat, k ≤ l.length ∧ x = .int .i64 (k : Int) ∧ Hid ((∀ j, j < k → ∀ t ∈ (clOf cs (nth l j)).ms, Comp t s) ∧ Env W [fkC b [.slice ha cs.length hc], fkI vS (.slice la l.length lc) l, fkC bs [.string s.n, .bool s.st, .slice pa pn pc, .string s.r]] wr)) (fun x _ => l.length - (intOf x).toNat)
 case atStart => exact ⟨0, by omega, rfl, fun j hj => by omega, H1.out⟩
 case round =>
  obtain ⟨k, hk, rfl, hh⟩ := hrel
  have HE := Lib.hid hh.out.2
  have HP := Lib.hid hh.out.1
  clear hh H1
  by_cases hlt : k < l.length
  ·have hki : (k : Int) < (l.length : Int) := by omega
   go_wp2_with fail
   obtain ⟨x, hx⟩ : ∃ x, x = nth l k := ⟨_, rfl⟩
   have hxc : isC cs x := by rw [hx]; exact HL.out.1 _ (nth_mem _ _ hlt)
   obtain ⟨n, hn⟩ : ∃ n, n = fd cs x := ⟨_, rfl⟩
   have hnl : n < cs.length := by rw [hn]; exact hxc
   have hfi : fI cs x = (n : Int) := by rw [fI_yes hxc, hn]
   have HE4 := Lib.hid HE.out.drew
   have hLI : InS vS wr.drew (.slice la l.length lc) l := HE4.out.fact 1 rfl
   obtain ⟨_, _, hsh, -, sidx, scell⟩ := InS.strs hLI
   injection hsh with hsh1 hsh2 hsh3
   subst hsh1 hsh3
   obtain ⟨q1, -, sc⟩ := scell k hlt
   have lcell := sc wr.drew (Below.refl _ _)
   rw [← hx] at lcell
   have lidx := sidx (k : Int) (by omega) (by omega)
   rw [Int.toNat_natCast] at lidx
   have d0 := HE4.out.cell 0 rfl 0 rfl
   have q0 : b < wr.drew.heap.size := World.block_lt_of_cell? _ _ d0
   obtain ⟨q2, v2, v3, ⟨-, -, hi2, hi3⟩, hcs⟩ := HC.out.2.1 n hnl
   have q2 : blk ha < wr.drew.heap.size := Nat.lt_of_lt_of_le q2 HE4.out.bel.size
   obtain ⟨ya, yc, rfl⟩ := hi2.shape
   obtain ⟨za9, zc9, he9, -, -, hz9⟩ := InS.sg hi3
   obtain ⟨za, zc, rfl⟩ := hi3.shape
   injection he9 with he1 he2 he3
   subst he1 he3
   clear he2
   have hz8 : ∀ i, i < (nth cs n).ms.length → blk za < W.heap.size := fun i hi => (hz9 i hi).1
   clear hz9
   have cidx := HC.out.1 (n : Int) (by omega) (by omega)
   rw [Int.toNat_natCast] at cidx
   have hcl : nth cs n = clOf cs x := by rw [hn]; rfl
   obtain ⟨o0, o1, o2, o3⟩ := hcs wr.drew HE4.out.bel
   rw [hcl] at hi2 hi3 o0 o1 o2 o3 hz8
   obtain ⟨cl, hcl2⟩ : ∃ cl, cl = clOf cs x := ⟨_, rfl⟩
   rw [← hcl2] at hi2 hi3 o0 o1 o2 o3 hz8
   have HX := Lib.hid (And.intro (And.intro hx hcl2) (And.intro (And.intro (hi2.below HE4.out.bel) (hi3.below HE4.out.bel)) (And.intro HE4.out.bel (And.intro hfi (And.intro hz8 hi3)))))
   clear hx hxc hn sidx scell sc hi2 hi3 hcs hcl hcl2 hfi hLI hz8
   generalize hyn : cl.fs.length = yn at *
   generalize hzn : cl.ms.length = zn at *
   have HYZ := Lib.hid (And.intro hyn hzn)
   clear hyn hzn
   go_cut [9] (fun q wx => ∃ bc, q = .pointer (some ⟨bc, 0, none⟩) ∧ wr.heap.size ≤ bc ∧ Env W [fkC bc [.string cl.n, .string cl.s, .slice ya yn yc, .slice za zn zc], fkI vSg (.slice za zn zc) cl.ms, fkI vVd (.slice ya yn yc) cl.fs, fkC b [.slice ha cs.length hc], fkI vS (.slice la l.length lc) l, fkC bs [.string s.n, .bool s.st, .slice pa pn pc, .string s.r]] wx)
   case first =>
    refine wp_region_plan (.take 0 (.take 1 (.take 2 (.take 3 (.take 4 (.take 5 (.take 6 (.alt 7 (.take 8 (.take 9 (.alt 10 (.alt 11 .done .stop) .stop))) (.alt 10 (.alt 7 (.take 8 (.take 9 (.alt 11 .done .stop))) .stop) .stop))))))))) (fun w' => Below wr.drew.heap.size wr.drew w') (by kernel_rfl) (by kernel_rfl) (by kernel_rfl) (by kernel_rfl) (Below.refl _ _) ?_
    have HY := Lib.hid (And.intro HX.out.2.1.1 HX.out.2.1.2)
    have hzz : wr.heap.size = wr.drew.heap.size := rfl
    generalize wr.drew = W4 at *
    have HZZ := Lib.hid hzz
    clear hzz
    repeat (
     refine plan_take (v := ?_) rfl (Or.inl ⟨by rfl, ?_⟩) ?_
     rotate_left
     ·(intro W hW; have x1 := (hW.cell (p := ⟨b, 0, none⟩) q0).trans d0; have x2 := (hW.cell (p := ⟨blk la, ofs la + k, none⟩) q1).trans lcell; have x3 := (hW.cell (p := ⟨blk ha, ofs ha + n * 4, none⟩) q2).trans o0; have x4 := (hW.cell (p := ⟨blk ha, ofs ha + n * 4 + 1, none⟩) q2).trans o1; have x5 := (hW.cell (p := ⟨blk ha, ofs ha + n * 4 + 2, none⟩) q2).trans o2; have x6 := (hW.cell (p := ⟨blk ha, ofs ha + n * 4 + 3, none⟩) q2).trans o3; (try go_simp); try with_reducible rfl)
     simp only [Act.put, List.setIfInBounds_toArray, List.getElem_toArray, List.getElem_cons_zero, List.getElem_cons_succ, List.set_cons_succ, List.set_cons_zero])
    refine plan_alt rfl ?_ ?_
    ·go_wp2_with fail
     refine (rFind_any cs _ x _ (HC.out.2.2.below HE4.out.bel)).mono ?_
     rintro e W5 ⟨rfl, b5⟩
     rw [HX.out.2.2.2.1]
     go_wp2_with fail
     refine tail_mk b5 ?_
     repeat (
      refine plan_take (v := ?_) rfl (Or.inl ⟨by rfl, ?_⟩) ?_
      rotate_left
      ·(intro W hW; have x1 := (hW.cell (p := ⟨b, 0, none⟩) q0).trans d0; have x2 := (hW.cell (p := ⟨blk la, ofs la + k, none⟩) q1).trans lcell; have x3 := (hW.cell (p := ⟨blk ha, ofs ha + n * 4, none⟩) q2).trans o0; have x4 := (hW.cell (p := ⟨blk ha, ofs ha + n * 4 + 1, none⟩) q2).trans o1; have x5 := (hW.cell (p := ⟨blk ha, ofs ha + n * 4 + 2, none⟩) q2).trans o2; have x6 := (hW.cell (p := ⟨blk ha, ofs ha + n * 4 + 3, none⟩) q2).trans o3; (try go_simp); try with_reducible rfl)
      simp only [Act.put, List.setIfInBounds_toArray, List.getElem_toArray, List.getElem_cons_zero, List.getElem_cons_succ, List.set_cons_succ, List.set_cons_zero])
     refine plan_alt rfl ?_ plan_stop
     go_wp2_with fail
     refine tail_mk (b5.alloc b5.size _) ?_
     refine plan_alt rfl ?_ plan_stop
     go_wp2_with fail
     have hB : Below W4.heap.size W4 (W5.alloc (.cells #[.string cl.n, .string cl.s, .slice ya yn yc, .slice za zn zc] 146)) := b5.alloc b5.size _
     have hC : (fkC W5.heap.size [.string cl.n, .string cl.s, .slice ya yn yc, .slice za zn zc]).p (W5.alloc (.cells #[.string cl.n, .string cl.s, .slice ya yn yc, .slice za zn zc] 146)) := cells_new rfl
     refine tail_mk hB ?_
     have HBC := Lib.hid (And.intro hB (And.intro hC (show wr.heap.size ≤ W5.heap.size by rw [HZZ.out]; exact b5.size)))
     clear hB hC b5 d0 lcell o0 o1 o2 o3
     refine plan_done ?_
     go_wp2_with fail
     go_meet
     case rel => exact ⟨_, rfl, HBC.out.2.2, (((HE4.out.below HBC.out.1).add (q := fkI vVd (.slice ya yn yc) cl.fs) (HY.out.1.below HBC.out.1)).add (q := fkI vSg (.slice za zn zc) cl.ms) (HY.out.2.below HBC.out.1)).add (q := fkC _ _) HBC.out.2.1⟩
    ·refine plan_alt rfl ?_ plan_stop
     go_wp2_with fail
     have hA : Below W4.heap.size W4 (W4.alloc (.cells #[.string ⟨#[]⟩, .string ⟨#[]⟩, .slice none 0 0, .slice none 0 0] 146)) := (Below.refl _ _).alloc (Nat.le_refl _) _
     have hN := heap_alloc_new W4 (.cells #[.string ⟨#[]⟩, .string ⟨#[]⟩, .slice none 0 0, .slice none 0 0] 146)
     refine tail_mk hA ?_
     refine plan_alt rfl ?_ plan_stop
     go_wp2_with fail
     refine (rFind_any cs _ x _ (HC.out.2.2.below (HE4.out.bel.trans (hA.mono HE4.out.bel.size)))).mono ?_
     rintro e W5 ⟨rfl, b5⟩
     rw [HX.out.2.2.2.1]
     go_wp2_with fail
     have hb5 : Below W4.heap.size W4 W5 := hA.trans (b5.mono hA.size)
     refine tail_mk hb5 ?_
     repeat (
      refine plan_take (v := ?_) rfl (Or.inl ⟨by rfl, ?_⟩) ?_
      rotate_left
      ·(intro W hW; have x1 := (hW.cell (p := ⟨b, 0, none⟩) q0).trans d0; have x2 := (hW.cell (p := ⟨blk la, ofs la + k, none⟩) q1).trans lcell; have x3 := (hW.cell (p := ⟨blk ha, ofs ha + n * 4, none⟩) q2).trans o0; have x4 := (hW.cell (p := ⟨blk ha, ofs ha + n * 4 + 1, none⟩) q2).trans o1; have x5 := (hW.cell (p := ⟨blk ha, ofs ha + n * 4 + 2, none⟩) q2).trans o2; have x6 := (hW.cell (p := ⟨blk ha, ofs ha + n * 4 + 3, none⟩) q2).trans o3; (try go_simp); try with_reducible rfl)
      simp only [Act.put, List.setIfInBounds_toArray, List.getElem_toArray, List.getElem_cons_zero, List.getElem_cons_succ, List.set_cons_succ, List.set_cons_zero])
     refine plan_alt rfl ?_ plan_stop
     obtain ⟨bc, hbc⟩ : ∃ bc, bc = W4.heap.size := ⟨_, rfl⟩
     have hN5 : W5.heap[bc]? = some (.cells #[.string ⟨#[]⟩, .string ⟨#[]⟩, .slice none 0 0, .slice none 0 0] 146) := by
      rw [hbc, b5.block W4.heap.size (by simp)]; exact hN
     obtain ⟨⟨z0, z1, z2, z3, zf⟩, hC, hG⟩ := store4 (y0 := .string cl.n) (y1 := .string cl.s) (y2 := .slice ya yn yc) (y3 := .slice za zn zc) hN5
     have hB : Below W4.heap.size W4 _ := hb5.grown hG hb5.size (fun q e => by injection e with e; omega)
     have hb6 : Below bc W4 W5 := by rw [hbc]; exact hb5
     have hB2 : Below bc W4 _ := hb6.grown hG (by rw [hbc]; exact hb5.size) (fun q e => by injection e with e; omega)
     have HBC := Lib.hid (And.intro hB (And.intro hC (And.intro hB2 (show wr.heap.size ≤ bc by rw [HZZ.out, hbc]; exact Nat.le_refl _))))
     have f0 := zf 0
     have f1 := zf 1
     have f2 := zf 2
     have f3 := zf 3
     rw [← hbc]
     clear hB hC hG hN5 hN hb5 hA b5 d0 lcell o0 o1 o2 o3 zf hbc hb6 hB2
     go_wp2_with fail
     refine tail_mk HBC.out.2.2.1 ?_
     refine plan_done ?_
     clear z0 z1 z2 z3 f0 f1 f2 f3
     go_wp2_with fail
     go_meet
     case rel => exact ⟨_, rfl, HBC.out.2.2.2, (((HE4.out.below HBC.out.1).add (q := fkI vVd (.slice ya yn yc) cl.fs) (HY.out.1.below HBC.out.1)).add (q := fkI vSg (.slice za zn zc) cl.ms) (HY.out.2.below HBC.out.1)).add (q := fkC _ _) HBC.out.2.1⟩
   case rest =>
    obtain ⟨bc, rfl, hbc9, hEn⟩ := hcut
    have HN := Lib.hid hEn
    clear hEn
    have hVI : InS vSg W (.slice za zn zc) cl.ms := HX.out.2.2.2.2.2
    obtain ⟨_, _, hsh, hyl, fidx, fcell⟩ := InS.sg hVI
    injection hsh with hsh1 hsh2 hsh3
    subst hsh1 hsh3
    rw [← hsh2] at fidx fcell hyl
    have HFI := Lib.hid (And.intro fidx (And.intro fcell hsh2))
    have e0 := HN.out.cell 0 rfl 3 rfl
    clear fidx fcell hsh2 hVI lcell o0 o1 o2 o3 cidx d0 q0 q1 q2 lidx hbc9
    go_wp2_with fail
    clear e0
    go_loopw [10] (fun x wy => ∃ q : Nat, q ≤ zn ∧ x = .int .i64 (q : Int) ∧ Hid ((∀ j, j < q → Comp (nth cl.ms j) s) ∧ Env W [fkC bc [.string cl.n, .string cl.s, .slice ya yn yc, .slice za zn zc], fkI vSg (.slice za zn zc) cl.ms, fkI vVd (.slice ya yn yc) cl.fs, fkC b [.slice ha cs.length hc], fkI vS (.slice la l.length lc) l, fkC bs [.string s.n, .bool s.st, .slice pa pn pc, .string s.r]] wy)) (fun x _ => zn - (intOf x).toNat)
    case atStart => exact ⟨0, by omega, rfl, fun j hj => by omega, HN.out⟩
    case round =>
     clear HN
     obtain ⟨q, hq, rfl, hh⟩ := hrel
     have HN := Lib.hid hh.out.2
     have e0 := hh.out.2.cell 0 rfl 3 rfl
     by_cases hql : q < zn
     ·have hqi : (q : Int) < (zn : Int) := by omega
      obtain ⟨-, pv, ⟨-, -, hps⟩, hz⟩ := HFI.out.2.1 q hql
      obtain ⟨ta, tc, rfl⟩ := hps.shape
      have j1 := HFI.out.1 (q : Int) (by omega) (by omega)
      rw [Int.toNat_natCast] at j1
      obtain ⟨t, ht⟩ : ∃ t, t = nth cl.ms q := ⟨_, rfl⟩
      rw [← ht] at hps hz
      obtain ⟨tn, htn⟩ : ∃ tn, tn = t.ps.length := ⟨_, rfl⟩
      rw [← htn] at hps hz
      have HT := Lib.hid (And.intro ht htn)
      clear ht htn
      go_wp2_with fail
      clear e0
      obtain ⟨Cls, hCls⟩ : ∃ Cls : World → Prop, ∀ Z', Cls Z' ↔ Env W [fkC bc [.string cl.n, .string cl.s, .slice ya yn yc, .slice za zn zc], fkI vSg (.slice za zn zc) cl.ms, fkI vVd (.slice ya yn yc) cl.fs, fkC b [.slice ha cs.length hc], fkI vS (.slice la l.length lc) l, fkC bs [.string s.n, .bool s.st, .slice pa pn pc, .string s.r]] Z' := ⟨_, fun _ => Iff.rfl⟩
      have hC : Cls wr.drew := (hCls _).2 HN.out.drew
      have k0 := fun q : Wd Cls => (hCls _).1 q.ok
      have hB : ∀ q : Wd Cls, ∀ Z', Below q.val.heap.size q.val Z' → Cls Z' := fun q Z' hb => (hCls _).2 ((k0 q).below hb)
      haveI hne : Nonempty (Wd Cls) := ⟨⟨_, hC⟩⟩
      have e0 : ∀ q : Wd Cls, q.val.cell? ⟨bc, 3, none⟩ = some (.slice za zn zc) := fun q => (k0 q).cell 0 rfl 3 rfl
      have s0 : ∀ q : Wd Cls, q.val.cell? ⟨bs, 0, none⟩ = some (.string s.n) := fun q => (k0 q).cell 5 rfl 0 rfl
      have s1 : ∀ q : Wd Cls, q.val.cell? ⟨bs, 1, none⟩ = some (.bool s.st) := fun q => (k0 q).cell 5 rfl 1 rfl
      have s2 : ∀ q : Wd Cls, q.val.cell? ⟨bs, 2, none⟩ = some (.slice pa pn pc) := fun q => (k0 q).cell 5 rfl 2 rfl
      have s3 : ∀ q : Wd Cls, q.val.cell? ⟨bs, 3, none⟩ = some (.string s.r) := fun q => (k0 q).cell 5 rfl 3 rfl
      have p0 : ∀ w : Wd Cls, w.val.cell? ⟨blk za, ofs za + q * 4, none⟩ = some (.string t.n) := fun w => (hz w.val (k0 w).bel).1
      have p1 : ∀ w : Wd Cls, w.val.cell? ⟨blk za, ofs za + q * 4 + 1, none⟩ = some (.bool t.st) := fun w => (hz w.val (k0 w).bel).2.1
      have p2 : ∀ w : Wd Cls, w.val.cell? ⟨blk za, ofs za + q * 4 + 2, none⟩ = some (.slice ta tn tc) := fun w => (hz w.val (k0 w).bel).2.2.1
      have p3 : ∀ w : Wd Cls, w.val.cell? ⟨blk za, ofs za + q * 4 + 3, none⟩ = some (.string t.r) := fun w => (hz w.val (k0 w).bel).2.2.2
      obtain ⟨d, hd⟩ : ∃ d, d = decide (SameS t s) := ⟨_, rfl⟩
      have f1 : ∀ w : Wd Cls, Calls Tryz.prog 154 #[.agg #[.string t.n, .bool t.st, .slice ta tn tc, .string t.r], .agg #[.string s.n, .bool s.st, .slice pa pn pc, .string s.r]] w.val fun e w'' => e = .returned (.bool d) ∧ ∃ q : Wd Cls, w'' = q.val := fun w => cls_bel (hB w) (by rw [hd]; exact rSameSig_any t s _ _ w.val (hps.below (k0 w).bel) (HL.out.2.2.below (k0 w).bel))
      have HK := Lib.hid k0
      have HCC := Lib.hid hC
      have HD := Lib.hid hd
      clear hCls hC k0 hB hz hps hd
      have hnext : Hid (Comp t s → ∀ j, j < q + 1 → Comp (nth cl.ms j) s) := Lib.hid fun h j hj => by
       by_cases e2 : j = q
       ·rw [e2, ← HT.out.1]; exact h
       ·exact hh.out.1 j (by omega)
      by_cases hn : t.n = s.n
      ·have t0 := tl_eq hn
       rcases Bool.eq_false_or_eq_true t.st with htb | htb
       rotate_left
       ·rcases Bool.eq_false_or_eq_true s.st with hsb | hsb
        rotate_left
        ·rw [htb] at p1
         rw [hsb] at s1
         rw [htb, hsb] at f1
         have HB := Lib.hid (And.intro htb hsb)
         have F1 := Lib.hid f1
         clear f1 htb hsb hn
         cases d
         ·refine wp_region_class Cls (by kernel_rfl) (by kernel_rfl) HCC.out ?_
          repeat (go_big_quiet_step ((go_at_call 154; exact F1.out _)))
          refine wpQuiet_nil ?_
          rintro _ ⟨q9, rfl⟩
          have H9 := Lib.hid (HK.out q9)
          clear e0 s0 s1 s2 s3 p0 p1 p2 p3
          go_wp2_with fail
          go_ret
          exact ⟨true, rfl, (fun h => by cases h), H9.out.bel⟩
         ·have hc2 := hnext.out fun _ => ⟨HB.out.1, HB.out.2, of_decide_eq_true HD.out.symm⟩
          have HC2 := Lib.hid hc2
          clear hc2
          refine wp_region_class Cls (by kernel_rfl) (by kernel_rfl) HCC.out ?_
          repeat (go_big_quiet_step ((go_at_call 154; exact F1.out _)))
          refine wpQuiet_nil ?_
          rintro _ ⟨q9, rfl⟩
          have H9 := Lib.hid (HK.out q9)
          clear e0 s0 s1 s2 s3 p0 p1 p2 p3
          go_wp2_with fail
          go_roundw
          case rel => exact ⟨q + 1, by omega, by go_num, HC2.out, H9.out⟩
          case measure => simp [intOf]; omega
        ·rw [htb] at p1
         rw [hsb] at s1
         have F1 := Lib.hid f1
         clear f1 htb hsb hn
         refine wp_region_class Cls (by kernel_rfl) (by kernel_rfl) HCC.out ?_
         repeat (go_big_quiet_step ((go_at_call 154; exact F1.out _)))
         refine wpQuiet_nil ?_
         rintro _ ⟨q9, rfl⟩
         have H9 := Lib.hid (HK.out q9)
         clear e0 s0 s1 s2 s3 p0 p1 p2 p3
         go_wp2_with fail
         go_ret
         exact ⟨true, rfl, (fun h => by cases h), H9.out.bel⟩
       ·rw [htb] at p1
        have F1 := Lib.hid f1
        clear f1 htb hn
        refine wp_region_class Cls (by kernel_rfl) (by kernel_rfl) HCC.out ?_
        repeat (go_big_quiet_step ((go_at_call 154; exact F1.out _)))
        refine wpQuiet_nil ?_
        rintro _ ⟨q9, rfl⟩
        have H9 := Lib.hid (HK.out q9)
        clear e0 s0 s1 s2 s3 p0 p1 p2 p3
        go_wp2_with fail
        go_ret
        exact ⟨true, rfl, (fun h => by cases h), H9.out.bel⟩
      ·have t0 := tl_ne hn
       have HC2 := Lib.hid (hnext.out fun h => absurd h hn)
       have F1 := Lib.hid f1
       clear f1 hn
       refine wp_region_class Cls (by kernel_rfl) (by kernel_rfl) HCC.out ?_
       repeat (go_big_quiet_step ((go_at_call 154; exact F1.out _)))
       refine wpQuiet_nil ?_
       rintro _ ⟨q9, rfl⟩
       have H9 := Lib.hid (HK.out q9)
       clear e0 s0 s1 s2 s3 p0 p1 p2 p3
       go_wp2_with fail
       go_roundw
       case rel => exact ⟨q + 1, by omega, by go_num, HC2.out, H9.out⟩
       case measure => simp [intOf]; omega
     ·obtain rfl : q = zn := by omega
      have HP2 := Lib.hid (show ∀ j, j < k + 1 → ∀ t ∈ (clOf cs (nth l j)).ms, Comp t s from fun j hj => by
       by_cases e2 : j = k
       ·rw [e2, ← HX.out.1.1, ← HX.out.1.2]
        intro t ht
        obtain ⟨i, hi, rfl⟩ := mem_nth ht
        exact hh.out.1 i (by rw [HFI.out.2.2]; exact hi)
       ·exact HP.out j (by omega))
      clear hql hq
      go_wp2_with fail
      go_roundw
      case rel => exact ⟨k + 1, by omega, by go_num, HP2.out, HN.out.sub (by simp)⟩
      case measure => simp [intOf]; omega
  ·obtain rfl : k = l.length := by omega
   have HR := Lib.hid (show ∀ d ∈ (sups cs c).tail, ∀ t ∈ (clOf cs d).ms, Comp t s from fun d hd => by
    rw [← HL.out.2.1] at hd
    obtain ⟨i, hi, rfl⟩ := mem_nth hd
    exact HP.out i hi)
   clear hlt hk
   go_wp2_with fail
   go_ret
   exact ⟨false, rfl, fun _ => HR.out, HE.out.bel⟩
end Go.Proofs.YtnklnklkblgnfaaGreatDoor
end
section
namespace Go.Dfl
theorem tl_lit {a : ByteArray} {l : List UInt8} (h : a = ⟨l.toArray⟩) : (a.toList == l) = true := by rw [h, ByteArray.toList_eq]; simp
theorem tl_litn {a : ByteArray} {l : List UInt8} (h : a ≠ ⟨l.toArray⟩) : (a.toList == l) = false := by
 rw [beq_eq_false_iff_ne]
 intro e
 rw [ByteArray.toList_eq] at e
 exact h (ByteArray.ext (by rw [← e]))
end Go.Dfl
namespace Go.Proofs.YtnklnklkblgnfaaGreatDoor
open Go.RowKit Go.Dfl Go.Obs Go.Hir
open Go.Gra (gen_code gen_calls)
def SomeB (W : World) (e : Ending) (W' : World) : Prop := ∃ b : Bool, e = .returned (.bool b) ∧ Below W.heap.size W W'
def SomeC (W : World) (e : Ending) (W' : World) : Prop := ∃ n : Int, e = .returned (.int .i64 n) ∧ Below W.heap.size W W'
set_option maxHeartbeats 1600000 in
theorem rType_any (cs : List Cl) (hv : Value) (t : ByteArray) (W : World) (h : InS vCl W hv cs) : Calls Tryz.prog 110 #[.agg #[hv], .string t] W (SomeB W) := by
 obtain ⟨ha, hc, rfl⟩ := h.shape
 have HE := Lib.hid (And.intro ((Env.refl W).alloc [.slice ha cs.length hc] 24) h)
 clear h
 by_cases ht : t = ⟨#[105, 110, 116]⟩
 ·have t0 : (t.toList == [105, 110, 116]) = true := tl_lit ht
  clear ht
  go_enter Tryz.func110, Tryz.ntmps110
  go_wp2_with fail
  go_ret
  exact ⟨_, rfl, HE.out.1.bel⟩
 ·have t0 : (t.toList == [105, 110, 116]) = false := tl_litn ht
  clear ht
  go_enter Tryz.func110, Tryz.ntmps110
  go_wp2_with fail
  refine (rFind_any cs _ t _ (HE.out.2.below HE.out.1.bel)).mono ?_
  rintro e W1 ⟨rfl, b1⟩
  have H1 := Lib.hid (HE.out.1.below b1).bel
  clear b1
  go_wp2_with fail
  all_goals (go_ret; exact ⟨_, rfl, H1.out⟩)
set_option maxHeartbeats 3200000 in
theorem rTypes_any (cs : List Cl) (hv : Value) (s : Sg) (sv : Value) (W : World) (h : InS vCl W hv cs) (hs : InS vS W sv s.ps) : Calls Tryz.prog 148 #[.agg #[hv], sgV s sv] W (SomeC W) := by
 obtain ⟨ha, hc, rfl⟩ := h.shape
 obtain ⟨pa, pc, rfl, hpl, hpi, hpc⟩ := InS.strs hs
 have HE := Lib.hid (And.intro (((Env.refl W).alloc [.slice ha cs.length hc] 24).alloc [.string s.n, .bool s.st, .slice pa s.ps.length pc, .string s.r] 115) (And.intro h (And.intro hpi hpc)))
 clear h hs hpi hpc
 unfold sgV
 go_enter Tryz.func148, Tryz.ntmps148
 go_wp2_with fail
 refine gen_code (fun Z => Env W [fkC (W.heap.size + 1) [.string s.n, .bool s.st, .slice pa s.ps.length pc, .string s.r], fkC W.heap.size [.slice ha cs.length hc]] Z) (by have h := HE.out.1; rw [World.size_alloc] at h; exact h) ?_
 intro Z hZ
 obtain ⟨b, hb⟩ : ∃ b, b = W.heap.size := ⟨_, rfl⟩
 obtain ⟨bs, hbs⟩ : ∃ b, b = W.heap.size + 1 := ⟨_, rfl⟩
 rw [← hbs, ← hb] at hZ ⊢
 have HZ := Lib.hid hZ
 have HC := Lib.hid HE.out.2
 clear hZ hbs hb HE
 go_loopw [5] (fun x wr => ∃ k : Nat, k ≤ s.ps.length ∧ x = .int .i64 (k : Int) ∧ Hid (Env W [fkC bs [.string s.n, .bool s.st, .slice pa s.ps.length pc, .string s.r], fkC b [.slice ha cs.length hc]] wr)) (fun x _ => s.ps.length - (intOf x).toNat)
 case atStart => exact ⟨0, by omega, rfl, HZ.out⟩
 case round =>
  clear HZ
  obtain ⟨k, hk, rfl, hh⟩ := hrel
  have d0 := hh.out.cell 0 rfl 2 rfl
  have d1 := hh.out.cell 1 rfl 0 rfl
  by_cases hlt : k < s.ps.length
  ·have hki : (k : Int) < (s.ps.length : Int) := by omega
   obtain ⟨-, -, hz⟩ := HC.out.2.2 k hlt
   have p0 := hz wr hh.out.bel
   have j1 := HC.out.2.1 (k : Int) (by omega) (by omega)
   rw [Int.toNat_natCast] at j1
   obtain ⟨y, hy⟩ : ∃ y, y = nth s.ps k := ⟨_, rfl⟩
   rw [← hy] at p0
   have HSS := Lib.hid (show wr.drew.cell? ⟨bs, 2, none⟩ = some (.slice pa s.ps.length pc) ∧ wr.drew.cell? ⟨b, 0, none⟩ = some (.slice ha cs.length hc) ∧ wr.drew.cell? ⟨blk pa, ofs pa + k, none⟩ = some (.string y) from ⟨d0, d1, p0⟩)
   clear hz hy
   go_wp2_with fail
   clear d0 d1 p0
   refine wp_region_mix [0, 1, 2, 3, 4, 5] [6, 7] (fun w' => w'.cell? ⟨bs, 2, none⟩ = some (.slice pa s.ps.length pc) ∧ w'.cell? ⟨b, 0, none⟩ = some (.slice ha cs.length hc) ∧ w'.cell? ⟨blk pa, ofs pa + k, none⟩ = some (.string y)) (by kernel_rfl) (by kernel_rfl) (by kernel_rfl) HSS.out ?_
   repeat (
    refine wpHeads_cons (v := ?_) rfl (Or.inl ⟨by rfl, ?_⟩) ?_
    rotate_left
    ·(intro W hW; obtain ⟨x1, x2, x3⟩ := hW; (try go_simp); try with_reducible rfl)
    simp only [Act.put, List.setIfInBounds_toArray, List.getElem_toArray, List.getElem_cons_zero, List.getElem_cons_succ, List.set_cons_succ, List.set_cons_zero])
   refine wpHeads_nil ?_
   refine wpTails_cons rfl ?_
   have HED := Lib.hid hh.out.drew
   generalize wr.drew = V at *
   go_wp2_with fail
   refine (rType_any cs _ y _ (HC.out.1.below HED.out.bel)).mono ?_
   rintro e W5 ⟨b5, rfl, q5⟩
   have g5 := grownBy_below q5
   have H5 := Lib.hid (HED.out.below q5)
   have hS5 := And.intro (g5.cell HSS.out.1 (by simp)) (And.intro (g5.cell HSS.out.2.1 (by simp)) (g5.cell HSS.out.2.2 (by simp)))
   clear q5 g5
   go_wp2_with fail
   refine tail_mk hS5 ?_
   clear hS5
   refine wpTails_one rfl ?_
   cases b5
   ·go_wp2_with fail
    refine thenQ_mk ?_
    go_wp2_with fail
    go_ret
    exact ⟨_, rfl, H5.out.bel⟩
   ·go_wp2_with fail
    refine thenQ_mk ?_
    go_wp2_with fail
    go_roundw
    case rel => exact ⟨k + 1, by omega, by go_num, H5.out⟩
    case measure => simp [intOf]; omega
  ·obtain rfl : k = s.ps.length := by omega
   have d2 := hh.out.cell 0 rfl 3 rfl
   by_cases hr : s.r = ⟨#[]⟩
   ·have t0 := tl_eq hr
    have t1 := tn_eq hr
    have t2 := te_eq hr
    clear hr hlt hk
    go_wp2_with fail
    go_ret
    exact ⟨_, rfl, hh.out.bel⟩
   ·have t0 := tl_ne hr
    have t1 := tn_ne hr
    have t2 := te_ne hr
    clear hr hlt hk
    go_wp2_with fail
    refine (rType_any cs _ s.r _ (HC.out.1.below hh.out.bel)).mono ?_
    rintro e W5 ⟨b5, rfl, q5⟩
    have H5 := Lib.hid (hh.out.below q5)
    clear q5
    cases b5
    ·go_wp2_with fail
     go_ret
     exact ⟨_, rfl, H5.out.bel⟩
    ·go_wp2_with fail
     go_ret
     exact ⟨_, rfl, H5.out.bel⟩
end Go.Proofs.YtnklnklkblgnfaaGreatDoor
end
section
namespace Go.Proofs.YtnklnklkblgnfaaGreatDoor
open Go.RowKit Go.Dfl Go.Obs Go.Hir
open Go.Gra (gen_code gen_calls)
def FieldsR (cs : List Cl) (i : Nat) (W : World) (e : Ending) (W' : World) : Prop := ∃ n : Int, e = .returned (.int .i64 n) ∧ (n = 0 → (nth cs i).s ≠ ⟨#[]⟩ → ∀ f ∈ (nth cs i).fs, fieldP cs (nth cs i).s f.n = none) ∧ Below W.heap.size W W'
set_option maxHeartbeats 6400000 in
theorem rFields_any (cs : List Cl) (hv : Value) (i : Nat) (W : World) (h : InS vCl W hv cs) (hl : cs.length ≤ 1000000) (hi : i < cs.length) : Calls Tryz.prog 131 #[.agg #[hv], .int .i64 (i : Int)] W (FieldsR cs i W) := by
 obtain ⟨ha, hc, rfl, hlen, hidx, hcell⟩ := InS.cl h
 have HE := Lib.hid ((Env.refl W).alloc [.slice ha cs.length hc] 24)
 obtain ⟨-, v2, v3, ⟨-, -, hi2, hi3⟩, hcs⟩ := hcell i hi
 have cidx := hidx (i : Int) (by omega) (by omega)
 rw [Int.toNat_natCast] at cidx
 obtain ⟨fa, fc, rfl, hfl, fidx, fcell⟩ := InS.vd hi2
 obtain ⟨ma, mc, rfl⟩ := hi3.shape
 obtain ⟨cl, hcl⟩ : ∃ cl, cl = nth cs i := ⟨_, rfl⟩
 rw [← hcl] at hi2 hi3 hcs fidx fcell hfl
 obtain ⟨fn, hfn⟩ : ∃ fn, fn = cl.fs.length := ⟨_, rfl⟩
 obtain ⟨mn, hmn⟩ : ∃ mn, mn = cl.ms.length := ⟨_, rfl⟩
 rw [← hfn] at hcs fidx fcell hfl
 rw [← hmn] at hcs
 have HC := Lib.hid (And.intro h (And.intro hcs (And.intro (And.intro fidx fcell) (And.intro hcl hfn))))
 clear h hidx hcell hi2 hi3 hcs fidx fcell hcl hfn hmn
 go_enter Tryz.func131, Tryz.ntmps131
 go_upto_region 1 with fail
 refine gen_code (fun Z => Env W [fkC W.heap.size [.slice ha cs.length hc]] Z) HE.out ?_
 intro Z hZ
 obtain ⟨b, hb⟩ : ∃ b, b = W.heap.size := ⟨_, rfl⟩
 rw [← hb] at hZ ⊢
 have HZ := Lib.hid hZ
 have d0 := hZ.cell 0 rfl 0 rfl
 obtain ⟨o0, o1, o2, o3⟩ := HC.out.2.1 Z hZ.bel
 clear hZ hb HE
 go_wp2_with fail
 clear d0 o0 o1 o2 o3
 go_loopw [6] (fun x wr => ∃ j : Nat, j ≤ fn ∧ x = .int .i64 (j : Int) ∧ Hid ((∀ q, q < j → cl.s ≠ ⟨#[]⟩ → fieldP cs cl.s (nth cl.fs q).n = none) ∧ Env W [fkC b [.slice ha cs.length hc]] wr)) (fun x _ => fn - (intOf x).toNat)
 case atStart => exact ⟨0, by omega, rfl, fun q hq => by omega, HZ.out⟩
 case round =>
  clear HZ
  obtain ⟨j, hj, rfl, hh⟩ := hrel
  by_cases hlt : j < fn
  ·have hji : (j : Int) < (fn : Int) := by omega
   obtain ⟨-, ⟨hn9, ht9⟩, hz⟩ := HC.out.2.2.1.2 j hlt
   obtain ⟨p0, p1⟩ := hz wr hh.out.2.bel
   have j1 := HC.out.2.2.1.1 (j : Int) (by omega) (by omega)
   rw [Int.toNat_natCast] at j1
   obtain ⟨f, hf⟩ : ∃ f, f = nth cl.fs j := ⟨_, rfl⟩
   rw [← hf] at p0 p1 hn9 hz
   have HF := Lib.hid (And.intro hf hz)
   clear hf hz
   go_wp2_with fail
   refine (rIdent_any f.n _ hn9).mono ?_
   rintro e W2 ⟨b2, rfl, -, q2⟩
   have H2 := Lib.hid (hh.out.2.below q2)
   clear q2 p0 p1
   cases b2
   ·go_wp2_with fail
    go_ret
    exact ⟨5, rfl, (fun h => by cases h), H2.out.bel⟩
   ·obtain ⟨p0, p1⟩ := HF.out.2 W2 H2.out.bel
    have d0 := H2.out.cell 0 rfl 0 rfl
    have HSS := Lib.hid (show W2.drew.cell? ⟨b, 0, none⟩ = some (.slice ha cs.length hc) ∧ W2.drew.cell? ⟨blk fa, ofs fa + j * 2 + 1, none⟩ = some (.string f.t) from ⟨d0, p1⟩)
    go_wp2_with fail
    clear d0 p0 p1
    refine wp_region_mix [0, 1, 2, 3, 4, 5] [6, 7] (fun w' => w'.cell? ⟨b, 0, none⟩ = some (.slice ha cs.length hc) ∧ w'.cell? ⟨blk fa, ofs fa + j * 2 + 1, none⟩ = some (.string f.t)) (by kernel_rfl) (by kernel_rfl) (by kernel_rfl) HSS.out ?_
    repeat (
     refine wpHeads_cons (v := ?_) rfl (Or.inl ⟨by rfl, ?_⟩) ?_
     rotate_left
     ·(intro W hW; obtain ⟨x1, x2⟩ := hW; (try go_simp); try with_reducible rfl)
     simp only [Act.put, List.setIfInBounds_toArray, List.getElem_toArray, List.getElem_cons_zero, List.getElem_cons_succ, List.set_cons_succ, List.set_cons_zero])
    refine wpHeads_nil ?_
    refine wpTails_cons rfl ?_
    have HED := Lib.hid H2.out.drew
    generalize W2.drew = V at *
    go_wp2_with fail
    refine (rType_any cs _ f.t _ (HC.out.1.below HED.out.bel)).mono ?_
    rintro e W5 ⟨b5, rfl, q5⟩
    have g5 := grownBy_below q5
    have H5 := Lib.hid (HED.out.below q5)
    have hS5 := And.intro (g5.cell HSS.out.1 (by simp)) (g5.cell HSS.out.2 (by simp))
    clear q5 g5
    go_wp2_with fail
    refine tail_mk hS5 ?_
    clear hS5 HSS
    refine wpTails_one rfl ?_
    cases b5
    ·go_wp2_with fail
     refine thenQ_mk ?_
     go_wp2_with fail
     go_ret
     exact ⟨8, rfl, (fun h => by cases h), H5.out.bel⟩
    ·go_wp2_with fail
     refine thenQ_mk ?_
     go_wp2_with fail
     go_loopw [7] (fun x wy => ∃ k : Nat, k ≤ j ∧ x = .int .i64 (k : Int) ∧ Hid (Env W [fkC b [.slice ha cs.length hc]] wy)) (fun x _ => j - (intOf x).toNat)
     case atStart => exact ⟨0, by omega, rfl, H5.out⟩
     case round =>
      obtain ⟨k, hk, rfl, hk2⟩ := hrel
      by_cases hkj : k < j
      ·have hki : (k : Int) < (j : Int) := by omega
       obtain ⟨-, -, hzk⟩ := HC.out.2.2.1.2 k (by omega)
       obtain ⟨r0, r1⟩ := hzk wr hk2.out.bel
       obtain ⟨p0, p1⟩ := HF.out.2 wr hk2.out.bel
       have j2 := HC.out.2.2.1.1 (k : Int) (by omega) (by omega)
       rw [Int.toNat_natCast] at j2
       clear hzk
       by_cases e : (nth cl.fs k).n = f.n
       ·have t0 := tl_eq e
        clear e
        go_wp2_with fail
        go_quiet (fail)
        go_wp2_with fail
        go_ret
        exact ⟨7, rfl, (fun h => by cases h), (hk2.out.below (qt_below (Qt.drewN _ _))).bel⟩
       ·have t0 := tl_ne e
        clear e
        go_wp2_with fail
        go_quiet (fail)
        go_wp2_with fail
        go_roundw
        case rel => exact ⟨k + 1, by omega, by go_num, hk2.out.below (qt_below (Qt.drewN _ _))⟩
        case measure => simp [intOf]; omega
      ·obtain rfl : k = j := by omega
       have HK2 := Lib.hid hk2.out
       clear hk2 hkj hk
       obtain ⟨Cls, hCls⟩ : ∃ Cls : World → Prop, ∀ Z', Cls Z' ↔ Env W [fkC b [.slice ha cs.length hc]] Z' := ⟨_, fun _ => Iff.rfl⟩
       have hC : Cls wr.drew := (hCls _).2 HK2.out.drew
       have k0 := fun q : Wd Cls => (hCls _).1 q.ok
       have hB : ∀ q : Wd Cls, ∀ Z', Below q.val.heap.size q.val Z' → Cls Z' := fun q Z' hb => (hCls _).2 ((k0 q).below hb)
       haveI hne : Nonempty (Wd Cls) := ⟨⟨_, hC⟩⟩
       have e0 : ∀ q : Wd Cls, q.val.cell? ⟨b, 0, none⟩ = some (.slice ha cs.length hc) := fun q => (k0 q).cell 0 rfl 0 rfl
       have e1 : ∀ q : Wd Cls, q.val.cell? ⟨blk ha, ofs ha + i * 4 + 1, none⟩ = some (.string cl.s) := fun q => (HC.out.2.1 q.val (k0 q).bel).2.1
       have e2 : ∀ q : Wd Cls, q.val.cell? ⟨blk fa, ofs fa + k * 2, none⟩ = some (.string f.n) := fun q => (HF.out.2 q.val (k0 q).bel).1
       have f1 : ∀ w : Wd Cls, Calls Tryz.prog 147 #[.agg #[.slice ha cs.length hc], .string cl.s, .string f.n] w.val fun e w'' => e = .returned (fldV (fieldP cs cl.s f.n)) ∧ ∃ q : Wd Cls, w'' = q.val := fun w => cls_bel (hB w) (rField_any cs _ cl.s f.n w.val (HC.out.1.below (k0 w).bel) hl)
       have HK := Lib.hid k0
       have HCC := Lib.hid hC
       have hnext : Hid ((cl.s ≠ ⟨#[]⟩ → fieldP cs cl.s f.n = none) → ∀ q, q < k + 1 → cl.s ≠ ⟨#[]⟩ → fieldP cs cl.s (nth cl.fs q).n = none) := Lib.hid fun h q hq hs => by
        by_cases e9 : q = k
        ·rw [e9, ← HF.out.1]; exact h hs
        ·exact hh.out.1 q (by omega) hs
       clear hCls hC k0 hB
       cases hx : fieldP cs cl.s f.n with
       | none =>
         rw [hx] at f1
         have f2 : ∀ w : Wd Cls, Calls Tryz.prog 147 #[.agg #[.slice ha cs.length hc], .string cl.s, .string f.n] w.val fun e w'' => e = .returned (.tuple #[.string ⟨#[]⟩, .string ⟨#[]⟩, .bool false]) ∧ ∃ q : Wd Cls, w'' = q.val := f1
         have F1 := Lib.hid f2
         have HN := Lib.hid (hnext.out fun _ => hx)
         clear f1 f2 hx
         go_wp2_with fail
         refine wp_region_class Cls (by kernel_rfl) (by kernel_rfl) HCC.out ?_
         repeat (go_big_quiet_step ((go_at_call 147; exact F1.out _)))
         refine wpQuiet_nil ?_
         rintro _ ⟨q9, rfl⟩
         have H9 := Lib.hid (HK.out q9)
         have g0 := e0 q9
         have g1 := e1 q9
         clear e0 e1 e2
         go_wp2_with fail
         go_roundw
         case rel => exact ⟨k + 1, by omega, by go_num, HN.out, H9.out⟩
         case measure => simp [intOf]; omega
       | some x =>
         obtain ⟨d, t⟩ := x
         rw [hx] at f1
         have f2 : ∀ w : Wd Cls, Calls Tryz.prog 147 #[.agg #[.slice ha cs.length hc], .string cl.s, .string f.n] w.val fun e w'' => e = .returned (.tuple #[.string d, .string t, .bool true]) ∧ ∃ q : Wd Cls, w'' = q.val := f1
         have F1 := Lib.hid f2
         clear f1 f2 hx
         by_cases hs : cl.s = ⟨#[]⟩
         ·have HN := Lib.hid (hnext.out fun h => absurd hs h)
          have t0 := tl_eq hs
          have t1 := tn_eq hs
          have t2 := te_eq hs
          clear hs
          go_wp2_with fail
          refine wp_region_class Cls (by kernel_rfl) (by kernel_rfl) HCC.out ?_
          repeat (go_big_quiet_step ((go_at_call 147; exact F1.out _)))
          refine wpQuiet_nil ?_
          rintro _ ⟨q9, rfl⟩
          have H9 := Lib.hid (HK.out q9)
          have g0 := e0 q9
          have g1 := e1 q9
          clear e0 e1 e2
          go_wp2_with fail
          go_roundw
          case rel => exact ⟨k + 1, by omega, by go_num, HN.out, H9.out⟩
          case measure => simp [intOf]; omega
         ·have t0 := tl_ne hs
          have t1 := tn_ne hs
          have t2 := te_ne hs
          clear hs
          go_wp2_with fail
          refine wp_region_class Cls (by kernel_rfl) (by kernel_rfl) HCC.out ?_
          repeat (go_big_quiet_step ((go_at_call 147; exact F1.out _)))
          refine wpQuiet_nil ?_
          rintro _ ⟨q9, rfl⟩
          have H9 := Lib.hid (HK.out q9)
          have g0 := e0 q9
          have g1 := e1 q9
          clear e0 e1 e2
          go_wp2_with fail
          go_ret
          exact ⟨7, rfl, (fun h => by cases h), H9.out.bel⟩
  ·obtain rfl : j = fn := by omega
   have HR := Lib.hid (show (nth cs i).s ≠ ⟨#[]⟩ → ∀ f ∈ (nth cs i).fs, fieldP cs (nth cs i).s f.n = none from fun hs f hf => by
    rw [← HC.out.2.2.2.1] at hs hf ⊢
    obtain ⟨q, hq, rfl⟩ := mem_nth hf
    exact hh.out.1 q (by rw [HC.out.2.2.2.2]; exact hq) hs)
   clear hlt hj
   go_wp2_with fail
   go_ret
   exact ⟨0, rfl, fun _ => HR.out, hh.out.2.bel⟩
end Go.Proofs.YtnklnklkblgnfaaGreatDoor
end
section
namespace Go.Proofs.YtnklnklkblgnfaaGreatDoor
open Go.RowKit Go.Dfl Go.Obs Go.Hir
open Go.Gra (gen_code gen_calls)
def MsOk (cs : List Cl) (i : Nat) : Prop := (∀ j k, j < k → k < (nth cs i).ms.length → (nth (nth cs i).ms j).n ≠ (nth (nth cs i).ms k).n) ∧ ∀ s ∈ (nth cs i).ms, ∀ d ∈ (sups cs (nth cs i).n).tail, ∀ t ∈ (clOf cs d).ms, Comp t s
def MethsR (cs : List Cl) (i : Nat) (W : World) (e : Ending) (W' : World) : Prop := ∃ n : Int, e = .returned (.int .i64 n) ∧ (n = 0 → MsOk cs i) ∧ Below W.heap.size W W'
set_option maxHeartbeats 6400000 in
theorem rMethods_any (cs : List Cl) (hv : Value) (i : Nat) (W : World) (h : InS vCl W hv cs) (hl : cs.length ≤ 1000000) (hi : i < cs.length) : Calls Tryz.prog 132 #[.agg #[hv], .int .i64 (i : Int)] W (MethsR cs i W) := by
 obtain ⟨ha, hc, rfl, hlen, hidx, hcell⟩ := InS.cl h
 have HE := Lib.hid ((Env.refl W).alloc [.slice ha cs.length hc] 24)
 obtain ⟨-, v2, v3, ⟨-, -, hi2, hi3⟩, hcs⟩ := hcell i hi
 have cidx := hidx (i : Int) (by omega) (by omega)
 rw [Int.toNat_natCast] at cidx
 obtain ⟨fa, fc, rfl⟩ := hi2.shape
 obtain ⟨ma, mc, rfl, hml, midx, mcell⟩ := InS.sg hi3
 obtain ⟨cl, hcl⟩ : ∃ cl, cl = nth cs i := ⟨_, rfl⟩
 rw [← hcl] at hi2 hi3 hcs midx mcell hml
 obtain ⟨fn, hfn⟩ : ∃ fn, fn = cl.fs.length := ⟨_, rfl⟩
 obtain ⟨mn, hmn⟩ : ∃ mn, mn = cl.ms.length := ⟨_, rfl⟩
 rw [← hmn] at hcs midx mcell hml
 rw [← hfn] at hcs
 have HC := Lib.hid (And.intro h (And.intro hcs (And.intro (And.intro midx mcell) (And.intro hcl hmn))))
 clear h hidx hcell hi2 hi3 hcs midx mcell hcl hmn hfn
 go_enter Tryz.func132, Tryz.ntmps132
 go_upto_region 1 with fail
 refine gen_code (fun Z => Env W [fkC W.heap.size [.slice ha cs.length hc]] Z) HE.out ?_
 intro Z hZ
 obtain ⟨b, hb⟩ : ∃ b, b = W.heap.size := ⟨_, rfl⟩
 rw [← hb] at hZ ⊢
 have HZ := Lib.hid hZ
 have d0 := hZ.cell 0 rfl 0 rfl
 obtain ⟨o0, o1, o2, o3⟩ := HC.out.2.1 Z hZ.bel
 clear hZ hb HE
 go_wp2_with fail
 clear d0 o0 o1 o2 o3
 go_loopw [6] (fun x wr => ∃ j : Nat, j ≤ mn ∧ x = .int .i64 (j : Int) ∧ Hid (((∀ p q, p < q → q < j → (nth cl.ms p).n ≠ (nth cl.ms q).n) ∧ ∀ q, q < j → ∀ d ∈ (sups cs cl.n).tail, ∀ t ∈ (clOf cs d).ms, Comp t (nth cl.ms q)) ∧ Env W [fkC b [.slice ha cs.length hc]] wr)) (fun x _ => mn - (intOf x).toNat)
 case atStart => exact ⟨0, by omega, rfl, ⟨fun p q _ hq => by omega, fun q hq => by omega⟩, HZ.out⟩
 case round =>
  clear HZ
  obtain ⟨j, hj, rfl, hh⟩ := hrel
  by_cases hlt : j < mn
  ·have hji : (j : Int) < (mn : Int) := by omega
   obtain ⟨-, pv, ⟨hn9, hr9, hps⟩, hz⟩ := HC.out.2.2.1.2 j hlt
   obtain ⟨pa, pc, rfl⟩ := hps.shape
   obtain ⟨p0, -, -, -⟩ := hz wr hh.out.2.bel
   have j1 := HC.out.2.2.1.1 (j : Int) (by omega) (by omega)
   rw [Int.toNat_natCast] at j1
   obtain ⟨s, hs⟩ : ∃ s, s = nth cl.ms j := ⟨_, rfl⟩
   rw [← hs] at p0 hn9 hr9 hz hps
   obtain ⟨pn, hpn⟩ : ∃ pn, pn = s.ps.length := ⟨_, rfl⟩
   rw [← hpn] at hz hps
   have HF := Lib.hid (And.intro hs (And.intro hz (And.intro hps hpn)))
   clear hs hz hps hpn
   go_wp2_with fail
   refine (rIdent_any s.n _ hn9).mono ?_
   rintro e W2 ⟨b2, rfl, -, q2⟩
   have H2 := Lib.hid (hh.out.2.below q2)
   clear q2 p0
   cases b2
   ·go_wp2_with fail
    go_ret
    exact ⟨5, rfl, (fun h => by cases h), H2.out.bel⟩
   ·go_wp2_with fail
    go_loopw [7] (fun x wy => ∃ k : Nat, k ≤ j ∧ x = .int .i64 (k : Int) ∧ Hid ((∀ q, q < k → (nth cl.ms q).n ≠ s.n) ∧ Env W [fkC b [.slice ha cs.length hc]] wy)) (fun x _ => j - (intOf x).toNat)
    case atStart => exact ⟨0, by omega, rfl, fun q hq => by omega, H2.out⟩
    case round =>
     obtain ⟨k, hk, rfl, hk2⟩ := hrel
     clear H2
     by_cases hkj : k < j
     ·have hki : (k : Int) < (j : Int) := by omega
      obtain ⟨-, vk, -, hzk⟩ := HC.out.2.2.1.2 k (by omega)
      obtain ⟨r0, -, -, -⟩ := hzk wr hk2.out.2.bel
      obtain ⟨p0, -, -, -⟩ := HF.out.2.1 wr hk2.out.2.bel
      have j2 := HC.out.2.2.1.1 (k : Int) (by omega) (by omega)
      rw [Int.toNat_natCast] at j2
      clear hzk
      by_cases e : (nth cl.ms k).n = s.n
      ·have t0 := tl_eq e
       clear e
       go_wp2_with fail
       go_quiet (fail)
       go_wp2_with fail
       go_ret
       exact ⟨7, rfl, (fun h => by cases h), (hk2.out.2.below (qt_below (Qt.drewN _ _))).bel⟩
      ·have t0 := tl_ne e
       have HN := Lib.hid (show ∀ q, q < k + 1 → (nth cl.ms q).n ≠ s.n from fun q hq => by
        by_cases e2 : q = k
        ·rw [e2]; exact e
        ·exact hk2.out.1 q (by omega))
       clear e
       go_wp2_with fail
       go_quiet (fail)
       go_wp2_with fail
       go_roundw
       case rel => exact ⟨k + 1, by omega, by go_num, HN.out, hk2.out.2.below (qt_below (Qt.drewN _ _))⟩
       case measure => simp [intOf]; omega
     ·obtain rfl : k = j := by omega
      have HK2 := Lib.hid hk2.out.2
      have HKN := Lib.hid hk2.out.1
      clear hk2 hkj hk
      obtain ⟨p0, p1, p2, p3⟩ := HF.out.2.1 wr HK2.out.bel
      by_cases h6 : 6 < pn
      ·have h6i : (6 : Int) < (pn : Int) := by omega
       clear p0 p1 p3
       go_wp2_with fail
       go_ret
       exact ⟨3, rfl, (fun h => by cases h), HK2.out.bel⟩
      ·have h6i : ¬ (6 : Int) < (pn : Int) := by omega
       have d0 := HK2.out.cell 0 rfl 0 rfl
       have HSS := Lib.hid (show wr.drew.cell? ⟨b, 0, none⟩ = some (.slice ha cs.length hc) ∧ wr.drew.cell? ⟨blk ma, ofs ma + k * 4, none⟩ = some (.string s.n) ∧ wr.drew.cell? ⟨blk ma, ofs ma + k * 4 + 1, none⟩ = some (.bool s.st) ∧ wr.drew.cell? ⟨blk ma, ofs ma + k * 4 + 2, none⟩ = some (.slice pa pn pc) ∧ wr.drew.cell? ⟨blk ma, ofs ma + k * 4 + 3, none⟩ = some (.string s.r) from ⟨d0, p0, p1, p2, p3⟩)
       go_wp2_with fail
       clear d0 p0 p1 p2 p3
       refine wp_region_mix [0, 1, 2, 3, 4] [5, 6] (fun w' => w'.cell? ⟨b, 0, none⟩ = some (.slice ha cs.length hc) ∧ w'.cell? ⟨blk ma, ofs ma + k * 4, none⟩ = some (.string s.n) ∧ w'.cell? ⟨blk ma, ofs ma + k * 4 + 1, none⟩ = some (.bool s.st) ∧ w'.cell? ⟨blk ma, ofs ma + k * 4 + 2, none⟩ = some (.slice pa pn pc) ∧ w'.cell? ⟨blk ma, ofs ma + k * 4 + 3, none⟩ = some (.string s.r)) (by kernel_rfl) (by kernel_rfl) (by kernel_rfl) HSS.out ?_
       repeat (
        refine wpHeads_cons (v := ?_) rfl (Or.inl ⟨by rfl, ?_⟩) ?_
        rotate_left
        ·(intro W hW; obtain ⟨x1, x2, x3, x4, x5⟩ := hW; (try go_simp); try with_reducible rfl)
        simp only [Act.put, List.setIfInBounds_toArray, List.getElem_toArray, List.getElem_cons_zero, List.getElem_cons_succ, List.set_cons_succ, List.set_cons_zero])
       refine wpHeads_nil ?_
       refine wpTails_cons rfl ?_
       have HED := Lib.hid HK2.out.drew
       generalize wr.drew = V at *
       go_wp2_with fail
       refine (rTypes_any cs _ s _ _ (HC.out.1.below HED.out.bel) (HF.out.2.2.1.below HED.out.bel)).mono ?_
       rintro e W5 ⟨n5, rfl, q5⟩
       have g5 := grownBy_below q5
       have H5 := Lib.hid (HED.out.below q5)
       have hS5 := And.intro (g5.cell HSS.out.1 (by simp)) (And.intro (g5.cell HSS.out.2.1 (by simp)) (And.intro (g5.cell HSS.out.2.2.1 (by simp)) (And.intro (g5.cell HSS.out.2.2.2.1 (by simp)) (g5.cell HSS.out.2.2.2.2 (by simp)))))
       clear q5 g5
       go_wp2_with fail
       refine tail_mk hS5 ?_
       clear hS5 HSS
       refine wpTails_one rfl ?_
       go_wp2_with fail
       refine thenQ_mk ?_
       by_cases hn5 : n5 = 0
       ·subst hn5
        go_wp2_with fail
        obtain ⟨p0, p1, p2, p3⟩ := HF.out.2.1 W5.drew H5.out.drew.bel
        obtain ⟨o0, -, -, -⟩ := HC.out.2.1 W5.drew H5.out.drew.bel
        have d0 := H5.out.drew.cell 0 rfl 0 rfl
        have HSS := Lib.hid (show W5.drew.cell? ⟨b, 0, none⟩ = some (.slice ha cs.length hc) ∧ W5.drew.cell? ⟨blk ma, ofs ma + k * 4, none⟩ = some (.string s.n) ∧ W5.drew.cell? ⟨blk ma, ofs ma + k * 4 + 1, none⟩ = some (.bool s.st) ∧ W5.drew.cell? ⟨blk ma, ofs ma + k * 4 + 2, none⟩ = some (.slice pa pn pc) ∧ W5.drew.cell? ⟨blk ma, ofs ma + k * 4 + 3, none⟩ = some (.string s.r) ∧ W5.drew.cell? ⟨blk ha, ofs ha + i * 4, none⟩ = some (.string cl.n) from ⟨d0, p0, p1, p2, p3, o0⟩)
        clear d0 p0 p1 p2 p3 o0
        refine wp_region_mix [0, 1, 2, 3, 4, 5, 6, 7, 8, 9, 10] [11] (fun w' => w'.cell? ⟨b, 0, none⟩ = some (.slice ha cs.length hc) ∧ w'.cell? ⟨blk ma, ofs ma + k * 4, none⟩ = some (.string s.n) ∧ w'.cell? ⟨blk ma, ofs ma + k * 4 + 1, none⟩ = some (.bool s.st) ∧ w'.cell? ⟨blk ma, ofs ma + k * 4 + 2, none⟩ = some (.slice pa pn pc) ∧ w'.cell? ⟨blk ma, ofs ma + k * 4 + 3, none⟩ = some (.string s.r) ∧ w'.cell? ⟨blk ha, ofs ha + i * 4, none⟩ = some (.string cl.n)) (by kernel_rfl) (by kernel_rfl) (by kernel_rfl) HSS.out ?_
        repeat (
         refine wpHeads_cons (v := ?_) rfl (Or.inl ⟨by rfl, ?_⟩) ?_
         rotate_left
         ·(intro W hW; obtain ⟨x1, x2, x3, x4, x5, x6⟩ := hW; (try go_simp); try with_reducible rfl)
         simp only [Act.put, List.setIfInBounds_toArray, List.getElem_toArray, List.getElem_cons_zero, List.getElem_cons_succ, List.set_cons_succ, List.set_cons_zero])
        refine wpHeads_nil ?_
        refine wpTails_one rfl ?_
        have HEE := Lib.hid H5.out.drew
        generalize W5.drew = V2 at *
        go_wp2_with fail
        refine (rOverrides_any cs _ cl.n s _ _ (HC.out.1.below HEE.out.bel) (HF.out.2.2.1.below HEE.out.bel) hl).mono ?_
        rintro e W6 ⟨b6, rfl, ho6, q6⟩
        have H6 := Lib.hid (And.intro (HEE.out.below q6) ho6)
        clear q6 ho6
        cases b6
        ·have HN := Lib.hid (show (∀ p q, p < q → q < k + 1 → (nth cl.ms p).n ≠ (nth cl.ms q).n) ∧ ∀ q, q < k + 1 → ∀ d ∈ (sups cs cl.n).tail, ∀ t ∈ (clOf cs d).ms, Comp t (nth cl.ms q) from ⟨fun p q hp hq => by
          by_cases e2 : q = k
          ·rw [e2, ← HF.out.1]; exact HKN.out p (by omega)
          ·exact hh.out.1.1 p q hp (by omega), fun q hq => by
          by_cases e2 : q = k
          ·rw [e2, ← HF.out.1]; exact H6.out.2 rfl
          ·exact hh.out.1.2 q (by omega)⟩)
         go_wp2_with fail
         refine thenQ_mk ?_
         go_wp2_with fail
         go_roundw
         case rel => exact ⟨k + 1, by omega, by go_num, HN.out, H6.out.1⟩
         case measure => simp [intOf]; omega
        ·go_wp2_with fail
         refine thenQ_mk ?_
         go_wp2_with fail
         go_ret
         exact ⟨11, rfl, (fun h => by cases h), H6.out.1.bel⟩
       ·have t5 : (n5 != 0) = true := by simpa using hn5
        have HN5 := Lib.hid hn5
        clear hn5
        go_wp2_with fail
        go_ret
        exact ⟨n5, rfl, fun h => absurd h HN5.out, H5.out.bel⟩
  ·obtain rfl : j = mn := by omega
   have HR := Lib.hid (show MsOk cs i from by
    unfold MsOk
    rw [← HC.out.2.2.2.1]
    exact ⟨fun p q hp hq => hh.out.1.1 p q hp (by rw [HC.out.2.2.2.2]; exact hq), fun s hs => by
     obtain ⟨q, hq, rfl⟩ := mem_nth hs
     exact hh.out.1.2 q (by rw [HC.out.2.2.2.2]; exact hq)⟩)
   clear hlt hj
   go_wp2_with fail
   go_ret
   exact ⟨0, rfl, fun _ => HR.out, hh.out.2.bel⟩
end Go.Proofs.YtnklnklkblgnfaaGreatDoor
end
section
namespace Go.Proofs.YtnklnklkblgnfaaGreatDoor
open Go.RowKit Go.Dfl Go.Obs Go.Hir
open Go.Gra (gen_code gen_calls)
structure ClOk (cs : List Cl) (i : Nat) : Prop where
 id : (nth cs i).n ≠ ⟨#[]⟩ ∧ (nth cs i).n ∉ kwl
 one : fI cs (nth cs i).n = (i : Int)
 sup : (nth cs i).s ≠ ⟨#[]⟩ → isC cs (nth cs i).s
 acyc : (chP cs (nth cs i).n).2 = false
 few : (nth cs i).fs.length ≤ 16 ∧ (nth cs i).ms.length ≤ 16
 fone : (nth cs i).s ≠ ⟨#[]⟩ → ∀ f ∈ (nth cs i).fs, fieldP cs (nth cs i).s f.n = none
 ms : MsOk cs i
def ClassR (cs : List Cl) (i : Nat) (W : World) (e : Ending) (W' : World) : Prop := ∃ n : Int, e = .returned (.int .i64 n) ∧ (n = 0 → ClOk cs i) ∧ Below W.heap.size W W'
set_option maxHeartbeats 6400000 in
theorem rClass_any (cs : List Cl) (hv : Value) (i : Nat) (W : World) (h : InS vCl W hv cs) (hl : cs.length ≤ 1000000) (hi : i < cs.length) : Calls Tryz.prog 107 #[.agg #[hv], .int .i64 (i : Int)] W (ClassR cs i W) := by
 obtain ⟨ha, hc, rfl, hlen, hidx, hcell⟩ := InS.cl h
 have HE := Lib.hid ((Env.refl W).alloc [.slice ha cs.length hc] 24)
 obtain ⟨-, v2, v3, ⟨hn1, hn2, hi2, hi3⟩, hcs⟩ := hcell i hi
 have cidx := hidx (i : Int) (by omega) (by omega)
 rw [Int.toNat_natCast] at cidx
 obtain ⟨fa, fc, rfl⟩ := hi2.shape
 obtain ⟨ma, mc, rfl⟩ := hi3.shape
 obtain ⟨cl, hcl⟩ : ∃ cl, cl = nth cs i := ⟨_, rfl⟩
 rw [← hcl] at hi2 hi3 hcs hn1
 obtain ⟨fn, hfn⟩ : ∃ fn, fn = cl.fs.length := ⟨_, rfl⟩
 obtain ⟨mn, hmn⟩ : ∃ mn, mn = cl.ms.length := ⟨_, rfl⟩
 rw [← hmn, ← hfn] at hcs
 have HC := Lib.hid (And.intro h (And.intro hcs (And.intro hn1 (And.intro hcl (And.intro hfn hmn)))))
 clear h hidx hcell hi2 hi3 hcs hn1 hn2 hcl hmn hfn
 go_enter Tryz.func107, Tryz.ntmps107
 go_upto_region 1 with fail
 refine gen_code (fun Z => Env W [fkC W.heap.size [.slice ha cs.length hc]] Z ∧ W.heap.size < Z.heap.size) ⟨HE.out, by rw [World.size_alloc]; omega⟩ ?_
 intro Z hZ
 obtain ⟨b, hb⟩ : ∃ b, b = W.heap.size := ⟨_, rfl⟩
 rw [← hb] at hZ ⊢
 have HZ := Lib.hid hZ
 have d0 := hZ.1.cell 0 rfl 0 rfl
 obtain ⟨o0, o1, o2, o3⟩ := HC.out.2.1 Z hZ.1.bel
 clear hZ hb HE
 go_upto_region 2 with fail
 refine gen_code (fun Z' => Env W [fkC Z.heap.size [.string cl.n, .string cl.s, .slice fa fn fc, .slice ma mn mc], fkC b [.slice ha cs.length hc]] Z') (HZ.out.1.alloc [.string cl.n, .string cl.s, .slice fa fn fc, .slice ma mn mc] 146) ?_
 intro Z2 hZ2
 obtain ⟨bc, hbc⟩ : ∃ b, b = Z.heap.size := ⟨_, rfl⟩
 rw [← hbc] at hZ2 ⊢
 have HZ2 := Lib.hid hZ2
 have e0 := hZ2.cell 0 rfl 0 rfl
 clear hZ2 hbc d0 o0 o1 o2 o3
 go_wp2_with fail
 refine (rIdent_any cl.n _ HC.out.2.2.1).mono ?_
 rintro e W2 ⟨b2, rfl, hb2, q2⟩
 have H2 := Lib.hid (And.intro (HZ2.out.below q2) hb2)
 clear q2 e0 hb2 HZ2 HZ
 cases b2
 ·go_wp2_with fail
  go_ret
  exact ⟨5, rfl, (fun h => by cases h), H2.out.1.bel⟩
 ·have e0 := H2.out.1.cell 0 rfl 0 rfl
  have d0 := H2.out.1.cell 1 rfl 0 rfl
  go_wp2_with fail
  refine (rFind_any cs _ cl.n _ (HC.out.1.below H2.out.1.bel)).mono ?_
  rintro e W3 ⟨rfl, q3⟩
  have H3 := Lib.hid (H2.out.1.below q3)
  obtain ⟨x, hx⟩ : ∃ x, x = fI cs cl.n := ⟨_, rfl⟩
  rw [← hx]
  have HX := Lib.hid hx
  clear q3 e0 d0 hx
  by_cases hxi : x = (i : Int)
  ·subst hxi
   have e1 := H3.out.cell 0 rfl 1 rfl
   have d0 := H3.out.cell 1 rfl 0 rfl
   by_cases hs : cl.s = ⟨#[]⟩
   ·have t0 := tl_eq hs
    have t1 := tn_eq hs
    have t2 := te_eq hs
    have HS := Lib.hid (show cl.s ≠ ⟨#[]⟩ → isC cs cl.s from fun h => absurd hs h)
    clear hs
    go_upto_region 8 with fail
    clear e1 d0 t0 t1 t2
    obtain ⟨W4, hW4⟩ : ∃ W4, W4 = W3 := ⟨_, rfl⟩
    rw [← hW4]
    have H4 := Lib.hid (show Env W [fkC bc [.string cl.n, .string cl.s, .slice fa fn fc, .slice ma mn mc], fkC b [.slice ha cs.length hc]] W4 from by rw [hW4]; exact H3.out)
    clear hW4
    have e0 := H4.out.cell 0 rfl 0 rfl
    have d0 := H4.out.cell 1 rfl 0 rfl
    go_wp2_with fail
    refine (rChain_any cs _ cl.n _ (HC.out.1.below H4.out.bel) hl).mono ?_
    rintro e W5 ⟨la, lc, rfl, h5, b5, -⟩
    have H5 := Lib.hid (H4.out.below b5)
    clear b5 e0 d0 h5
    obtain ⟨fl, hfl⟩ : ∃ fl, fl = (chP cs cl.n).2 := ⟨_, rfl⟩
    obtain ⟨ln, hln⟩ : ∃ ln, ln = (chP cs cl.n).1.length := ⟨_, rfl⟩
    rw [← hfl, ← hln]
    have HFL := Lib.hid hfl
    clear hfl hln
    cases fl
    rotate_left
    ·go_wp2_with fail
     go_ret
     exact ⟨10, rfl, (fun h => by cases h), H5.out.bel⟩
    ·have e2 := H5.out.cell 0 rfl 2 rfl
     have e3 := H5.out.cell 0 rfl 3 rfl
     by_cases hf : 16 < fn
     ·have hfi : (16 : Int) < (fn : Int) := by omega
      go_wp2_with fail
      go_ret
      exact ⟨3, rfl, (fun h => by cases h), H5.out.bel⟩
     ·have hfi : ¬ (16 : Int) < (fn : Int) := by omega
      by_cases hm : 16 < mn
      ·have hmi : (16 : Int) < (mn : Int) := by omega
       go_wp2_with fail
       go_ret
       exact ⟨3, rfl, (fun h => by cases h), H5.out.bel⟩
      ·have hmi : ¬ (16 : Int) < (mn : Int) := by omega
       have HFW := Lib.hid (And.intro (Nat.le_of_not_lt hf) (Nat.le_of_not_lt hm))
       go_upto_region 13 with fail
       clear e2 e3 hf hfi hm hmi
       have d0 := H5.out.cell 1 rfl 0 rfl
       go_wp2_with fail
       refine (rFields_any cs _ i _ (HC.out.1.below H5.out.bel) hl hi).mono ?_
       rintro e W6 ⟨n6, rfl, h6, q6⟩
       have H6 := Lib.hid (And.intro (H5.out.below q6) h6)
       clear q6 h6 d0
       by_cases hn6 : n6 = 0
       ·subst hn6
        have d0 := H6.out.1.cell 1 rfl 0 rfl
        go_wp2_with fail
        refine (rMethods_any cs _ i _ (HC.out.1.below H6.out.1.bel) hl hi).mono ?_
        rintro e W7 ⟨n7, rfl, h7, q7⟩
        have H7 := Lib.hid (And.intro (H6.out.1.below q7) h7)
        clear q7 h7 d0
        go_wp2_with fail
        go_ret
        exact ⟨n7, rfl, fun h0 => ⟨by rw [← HC.out.2.2.2.1]; exact H2.out.2 trivial, by rw [← HC.out.2.2.2.1]; exact HX.out.symm, by rw [← HC.out.2.2.2.1]; exact HS.out, by rw [← HC.out.2.2.2.1]; exact HFL.out.symm, by rw [← HC.out.2.2.2.1, ← HC.out.2.2.2.2.1, ← HC.out.2.2.2.2.2]; exact HFW.out, H6.out.2 trivial, H7.out.2 h0⟩, H7.out.1.bel⟩
       ·have t5 : (n6 != 0) = true := by simpa using hn6
        have HN6 := Lib.hid hn6
        clear hn6
        go_wp2_with fail
        go_ret
        exact ⟨n6, rfl, fun h => absurd h HN6.out, H6.out.1.bel⟩
   ·have t0 := tl_ne hs
    have t1 := tn_ne hs
    have t2 := te_ne hs
    clear hs
    go_wp2_with fail
    refine (rFind_any cs _ cl.s _ (HC.out.1.below H3.out.bel)).mono ?_
    rintro e W4 ⟨rfl, q4⟩
    have H4 := Lib.hid (H3.out.below q4)
    clear q4 e1 d0 t0 t1 t2
    obtain ⟨y, hy⟩ : ∃ y, y = fI cs cl.s := ⟨_, rfl⟩
    rw [← hy]
    have HY := Lib.hid hy
    clear hy
    by_cases hy0 : y < 0
    ·go_wp2_with fail
     go_ret
     exact ⟨6, rfl, (fun h => by cases h), H4.out.bel⟩
    ·have HS := Lib.hid (show cl.s ≠ ⟨#[]⟩ → isC cs cl.s from fun _ => fI_nonneg.1 (by rw [← HY.out]; omega))
     go_upto_region 8 with fail
     clear hy0
     have e0 := H4.out.cell 0 rfl 0 rfl
     have d0 := H4.out.cell 1 rfl 0 rfl
     go_wp2_with fail
     refine (rChain_any cs _ cl.n _ (HC.out.1.below H4.out.bel) hl).mono ?_
     rintro e W5 ⟨la, lc, rfl, h5, b5, -⟩
     have H5 := Lib.hid (H4.out.below b5)
     clear b5 e0 d0 h5
     obtain ⟨fl, hfl⟩ : ∃ fl, fl = (chP cs cl.n).2 := ⟨_, rfl⟩
     obtain ⟨ln, hln⟩ : ∃ ln, ln = (chP cs cl.n).1.length := ⟨_, rfl⟩
     rw [← hfl, ← hln]
     have HFL := Lib.hid hfl
     clear hfl hln
     cases fl
     rotate_left
     ·go_wp2_with fail
      go_ret
      exact ⟨10, rfl, (fun h => by cases h), H5.out.bel⟩
     ·have e2 := H5.out.cell 0 rfl 2 rfl
      have e3 := H5.out.cell 0 rfl 3 rfl
      by_cases hf : 16 < fn
      ·have hfi : (16 : Int) < (fn : Int) := by omega
       go_wp2_with fail
       go_ret
       exact ⟨3, rfl, (fun h => by cases h), H5.out.bel⟩
      ·have hfi : ¬ (16 : Int) < (fn : Int) := by omega
       by_cases hm : 16 < mn
       ·have hmi : (16 : Int) < (mn : Int) := by omega
        go_wp2_with fail
        go_ret
        exact ⟨3, rfl, (fun h => by cases h), H5.out.bel⟩
       ·have hmi : ¬ (16 : Int) < (mn : Int) := by omega
        have HFW := Lib.hid (And.intro (Nat.le_of_not_lt hf) (Nat.le_of_not_lt hm))
        go_upto_region 13 with fail
        clear e2 e3 hf hfi hm hmi
        have d0 := H5.out.cell 1 rfl 0 rfl
        go_wp2_with fail
        refine (rFields_any cs _ i _ (HC.out.1.below H5.out.bel) hl hi).mono ?_
        rintro e W6 ⟨n6, rfl, h6, q6⟩
        have H6 := Lib.hid (And.intro (H5.out.below q6) h6)
        clear q6 h6 d0
        by_cases hn6 : n6 = 0
        ·subst hn6
         have d0 := H6.out.1.cell 1 rfl 0 rfl
         go_wp2_with fail
         refine (rMethods_any cs _ i _ (HC.out.1.below H6.out.1.bel) hl hi).mono ?_
         rintro e W7 ⟨n7, rfl, h7, q7⟩
         have H7 := Lib.hid (And.intro (H6.out.1.below q7) h7)
         clear q7 h7 d0
         go_wp2_with fail
         go_ret
         exact ⟨n7, rfl, fun h0 => ⟨by rw [← HC.out.2.2.2.1]; exact H2.out.2 trivial, by rw [← HC.out.2.2.2.1]; exact HX.out.symm, by rw [← HC.out.2.2.2.1]; exact HS.out, by rw [← HC.out.2.2.2.1]; exact HFL.out.symm, by rw [← HC.out.2.2.2.1, ← HC.out.2.2.2.2.1, ← HC.out.2.2.2.2.2]; exact HFW.out, H6.out.2 trivial, H7.out.2 h0⟩, H7.out.1.bel⟩
        ·have t5 : (n6 != 0) = true := by simpa using hn6
         have HN6 := Lib.hid hn6
         clear hn6
         go_wp2_with fail
         go_ret
         exact ⟨n6, rfl, fun h => absurd h HN6.out, H6.out.1.bel⟩
  ·have t0 : ((i : Int) != x) = true := by simpa using fun h => hxi h.symm
   have t1 : ((i : Int) == x) = false := by simpa using fun h => hxi h.symm
   clear hxi
   go_wp2_with fail
   go_ret
   exact ⟨7, rfl, (fun h => by cases h), H3.out.bel⟩
def HierR (cs : List Cl) (W : World) (e : Ending) (W' : World) : Prop := ∃ i n : Int, e = .returned (.tuple #[.int .i64 i, .int .i64 n]) ∧ (n = 0 → cs.length ≤ 64 ∧ ∀ i, i < cs.length → ClOk cs i) ∧ Below W.heap.size W W'
set_option maxHeartbeats 1600000 in
theorem rHier_any (cs : List Cl) (hv : Value) (W : World) (h : InS vCl W hv cs) : Calls Tryz.prog 64 #[.agg #[hv]] W (HierR cs W) := by
 obtain ⟨ha, hc, rfl⟩ := h.shape
 have HE := Lib.hid ((Env.refl W).alloc [.slice ha cs.length hc] 24)
 obtain ⟨N, hN⟩ : ∃ N, N = cs.length := ⟨_, rfl⟩
 rw [← hN] at HE h ⊢
 have HC := Lib.hid (And.intro h hN)
 clear h hN
 by_cases h64 : 64 < N
 ·have h64i : (64 : Int) < (N : Int) := by omega
  go_enter Tryz.func64, Tryz.ntmps64
  go_wp2_with fail
  go_ret2
  exact ⟨-1, 3, rfl, (fun h => by cases h), HE.out.bel⟩
 ·have h64i : ¬ (64 : Int) < (N : Int) := by omega
  go_enter Tryz.func64, Tryz.ntmps64
  go_upto_region 3 with fail
  refine gen_code (fun Z => Env W [fkC W.heap.size [.slice ha N hc]] Z) HE.out ?_
  intro Z hZ
  obtain ⟨b, hb⟩ : ∃ b, b = W.heap.size := ⟨_, rfl⟩
  rw [← hb] at hZ ⊢
  have HZ := Lib.hid hZ
  clear hZ hb HE
  go_wp2_with fail
  go_loopw [4] (fun x wr => ∃ j : Nat, j ≤ N ∧ x = .int .i64 (j : Int) ∧ Hid ((∀ q, q < j → ClOk cs q) ∧ Env W [fkC b [.slice ha N hc]] wr)) (fun x _ => N - (intOf x).toNat)
  case atStart => exact ⟨0, by omega, rfl, fun q hq => by omega, HZ.out⟩
  case round =>
   clear HZ
   obtain ⟨j, hj, rfl, hh⟩ := hrel
   have d0 := hh.out.2.cell 0 rfl 0 rfl
   by_cases hlt : j < N
   ·have hji : (j : Int) < (N : Int) := by omega
    go_wp2_with fail
    refine (rClass_any cs _ j _ (HC.out.1.below hh.out.2.bel) (by have := HC.out.2; omega) (by have := HC.out.2; omega)).mono ?_
    rintro e W2 ⟨n2, rfl, h2, q2⟩
    have H2 := Lib.hid (And.intro (hh.out.2.below q2) h2)
    clear q2 h2 d0
    by_cases hn2 : n2 = 0
    ·subst hn2
     go_wp2_with fail
     go_roundw
     case rel => exact ⟨j + 1, by omega, by go_num, fun q hq => by
      by_cases e2 : q = j
      ·rw [e2]; exact H2.out.2 trivial
      ·exact hh.out.1 q (by omega), H2.out.1⟩
     case measure => simp [intOf]; omega
    ·have t5 : (n2 != 0) = true := by simpa using hn2
     have HN2 := Lib.hid hn2
     clear hn2
     go_wp2_with fail
     go_ret2
     exact ⟨j, n2, rfl, fun h => absurd h HN2.out, H2.out.1.bel⟩
   ·obtain rfl : j = N := by omega
    go_wp2_with fail
    go_ret2
    exact ⟨0, 0, rfl, fun _ => ⟨by have := HC.out.2; omega, fun i hi => hh.out.1 i (by have := HC.out.2; omega)⟩, hh.out.2.bel⟩
theorem kwl_int : (⟨#[105, 110, 116]⟩ : ByteArray) ∈ kwl ∧ (⟨#[110, 117, 108, 108]⟩ : ByteArray) ∈ kwl := by unfold kwl; constructor <;> simp
theorem hier_ok {cs : List Cl} (h : ∀ i, i < cs.length → ClOk cs i) : HOk cs := by
 have hd : ∀ i, i < cs.length → fd cs (nth cs i).n = i := fun i hi => by
  have h1 := (h i hi).one
  have h2 : fd cs (nth cs i).n < cs.length := by rw [← fI_nonneg, h1]; omega
  rw [fI_yes h2] at h1
  omega
 exact ⟨fun c hc => by
   have h1 := (h _ hc).acyc
   rw [fd_at hc] at h1
   exact h1, hd, fun i hi => ⟨fun e => (h i hi).id.2 (by rw [e]; exact kwl_int.1), fun e => (h i hi).id.2 (by rw [e]; exact kwl_int.2), (h i hi).id.1⟩, fun i hi => (h i hi).sup, fun i hi => (h i hi).fone, fun i hi => (h i hi).ms.1, fun i hi s hs c hc t ht => (h i hi).ms.2 s hs c hc t ht⟩
end Go.Proofs.YtnklnklkblgnfaaGreatDoor
end
section
namespace Go.Hir
open Go.Dfl (nth nth_mem mem_nth nth_eq nth_ext take_snoc nth_set nth_append nth_out)
open Go.Obs
def tI : ByteArray := ⟨#[105, 110, 116]⟩
def tN : ByteArray := ⟨#[110, 117, 108, 108]⟩
def form (op : Int) : List Nat :=
 if op = 1 then [100, 110] else if op = 2 then [100] else if op = 3 then [100, 97] else if op = 4 then [100, 97, 111, 98] else if op = 5 then [100] else if op = 6 then [100, 99] else if op = 7 then [100, 97, 109]
 else if op = 8 then [97, 109, 98] else if op = 9 then [100, 97, 99, 109, 108] else if op = 10 then [100, 99, 109, 108] else if op = 11 then [97, 103] else if op = 12 then [103] else if op = 13 then [97] else if op = 14 then [97]
 else if op = 15 then [100, 99] else if op = 16 then [100, 97, 110] else []
def hasB (op : Int) (ch : Nat) : Bool := (form op).contains ch || (ch == 110 && (form op).contains 111)
def Fits (cs : List Cl) (f t : ByteArray) : Prop := f = t ∨ (f = tN ∧ t ≠ tI) ∨ (isC cs f ∧ isC cs t ∧ t ∈ sups cs f)
def vty (f : Fu) (v : Int) : ByteArray := (nth f.vs v.toNat).t
structure Rng (f : Fu) (x : Is) : Prop where
 d : hasB x.op 100 = true → (0 ≤ x.d ∧ x.d < f.vs.length) ∨ ((x.op = 9 ∨ x.op = 10) ∧ x.d = -1)
 a : hasB x.op 97 = true → (0 ≤ x.a ∧ x.a < f.vs.length) ∨ (x.op = 13 ∧ x.a = -1)
 b : hasB x.op 98 = true → 0 ≤ x.b ∧ x.b < f.vs.length
 l : hasB x.op 108 = true → ∀ y ∈ x.ar, 0 ≤ y ∧ y < f.vs.length
 g : hasB x.op 103 = true → 0 ≤ x.g ∧ x.g < f.cd.length
 ct : x.ct = -1 ∨ (0 ≤ x.ct ∧ x.ct < f.cd.length ∧ (nth f.cd x.ct.toNat).op = 15)
structure Stay (f : Fu) (i : Nat) (x : Is) : Prop where
 next : x.op ≠ 12 → x.op ≠ 13 → x.op ≠ 14 → i + 1 < f.cd.length ∧ (nth f.cd (i + 1)).op ≠ 15
 tgt : hasB x.op 103 = true → (nth f.cd x.g.toNat).op ≠ 15
 top : i = 0 → x.op ≠ 15
def Sig (cs : List Cl) (f : Fu) (x : Is) (s : Sg) : Prop :=
 s.ps.length = x.ar.length ∧ (∀ i, i < x.ar.length → Fits cs (vty f (nth x.ar i)) (nth s.ps i)) ∧ (x.d ≠ -1 → s.r ≠ ⟨#[]⟩ ∧ Fits cs s.r (vty f x.d))
structure Typd (cs : List Cl) (f : Fu) (x : Is) : Prop where
 const : x.op = 1 ∨ x.op = 5 → vty f x.d = tI
 null : x.op = 2 → vty f x.d ≠ tI
 copy : x.op = 3 → Fits cs (vty f x.a) (vty f x.d)
 bin : x.op = 4 → vty f x.d = tI
 new : x.op = 6 ∨ x.op = 15 → isC cs x.c ∧ Fits cs x.c (vty f x.d)
 load : x.op = 7 → isC cs (vty f x.a) ∧ ∃ c t, fieldP cs (vty f x.a) x.m = some (c, t) ∧ Fits cs t (vty f x.d)
 store : x.op = 8 → isC cs (vty f x.a) ∧ ∃ c t, fieldP cs (vty f x.a) x.m = some (c, t) ∧ Fits cs (vty f x.b) t
 call : x.op = 9 → isC cs (vty f x.a) ∧ vty f x.a = x.c ∧ ∃ c s, methP cs x.c x.m = some (c, s) ∧ s.st = false ∧ Sig cs f x s
 static : x.op = 10 → ∃ s, methP cs x.c x.m = some (x.c, s) ∧ s.st = true ∧ Sig cs f x s
 shift : x.op = 16 → vty f x.a = tI ∧ vty f x.d = tI
 throw : x.op = 14 → vty f x.a ≠ tI
 ret : x.op = 13 → (x.a = -1 ↔ f.r = ⟨#[]⟩) ∧ (x.a ≠ -1 → Fits cs (vty f x.a) f.r)
structure IOk (cs : List Cl) (f : Fu) (i : Nat) : Prop where
 op : 0 ≤ (nth f.cd i).op ∧ (nth f.cd i).op ≤ 16
 rng : Rng f (nth f.cd i)
 stay : Stay f i (nth f.cd i)
 typ : Typd cs f (nth f.cd i)
structure FitF (f : Fu) (c : ByteArray) (s : Sg) : Prop where
 fc : f.c = c
 fm : f.m = s.n
 fst : f.st = s.st
 fr : f.r = s.r
 this : s.st = false → 0 < f.vs.length ∧ (nth f.vs 0).t = c
 ps : ∀ i, i < s.ps.length → (if s.st then i else i + 1) < f.vs.length ∧ (nth f.vs (if s.st then i else i + 1)).t = nth s.ps i
structure FOk (cs : List Cl) (f : Fu) : Prop where
 pos : 0 < f.cd.length
 ins : ∀ i, i < f.cd.length → IOk cs f i
 len : f.vs.length ≤ 256 ∧ f.cd.length ≤ 1024
def off (cs : List Cl) (i : Nat) : Nat := ((cs.take i).map fun c => c.ms.length).sum
structure UOk (u : Un) : Prop where
 h : HOk u.cs
 len : u.fs.length = off u.cs u.cs.length
 fit : ∀ i j, i < u.cs.length → j < (nth u.cs i).ms.length → FitF (nth u.fs (off u.cs i + j)) (nth u.cs i).n (nth (nth u.cs i).ms j)
 fn : ∀ i, i < u.fs.length → FOk u.cs (nth u.fs i)
 mn : 0 ≤ u.mn ∧ u.mn < u.fs.length
 main : (nth u.fs u.mn.toNat).st = true ∧ (nth u.fs u.mn.toNat).r = ⟨#[]⟩
def fuF (fs : List Fu) (c m : ByteArray) : Nat → Nat → Nat
 | 0, k => k
 | n + 1, k => if (nth fs k).c = c ∧ (nth fs k).m = m then k else fuF fs c m n (k + 1)
def fu (fs : List Fu) (c m : ByteArray) : Nat := fuF fs c m fs.length 0
def fuI (fs : List Fu) (c m : ByteArray) : Int := if fu fs c m < fs.length then (fu fs c m : Int) else -1
theorem fuF_spec {fs : List Fu} {c m : ByteArray} : ∀ (n k : Nat), k ≤ fuF fs c m n k ∧ fuF fs c m n k ≤ k + n ∧ (∀ j, k ≤ j → j < fuF fs c m n k → ¬ ((nth fs j).c = c ∧ (nth fs j).m = m)) ∧ (fuF fs c m n k < k + n → (nth fs (fuF fs c m n k)).c = c ∧ (nth fs (fuF fs c m n k)).m = m)
 | 0, k => ⟨Nat.le_refl _, Nat.le_refl _, fun j h1 h2 => by unfold fuF at h2; omega, fun h => by unfold fuF at h; omega⟩
 | n + 1, k => by
   unfold fuF
   by_cases e : (nth fs k).c = c ∧ (nth fs k).m = m
   ·rw [if_pos e]
    exact ⟨Nat.le_refl _, by omega, fun j h1 h2 => by omega, fun _ => e⟩
   ·rw [if_neg e]
    obtain ⟨h1, h2, h3, h4⟩ := fuF_spec (fs := fs) (c := c) (m := m) n (k + 1)
    refine ⟨by omega, by omega, fun j h5 h6 => ?_, fun h => h4 (by omega)⟩
    by_cases e2 : j = k
    ·subst e2; exact e
    ·exact h3 j (by omega) h6
section
variable {fs : List Fu} {c m : ByteArray} {i : Nat}
theorem fu_le : fu fs c m ≤ fs.length := by have := (fuF_spec (fs := fs) (c := c) (m := m) fs.length 0).2.1; unfold fu; omega
theorem fu_before {j : Nat} (h : j < fu fs c m) : ¬ ((nth fs j).c = c ∧ (nth fs j).m = m) := (fuF_spec (fs := fs) (c := c) (m := m) fs.length 0).2.2.1 j (by omega) h
theorem fu_at (h : fu fs c m < fs.length) : (nth fs (fu fs c m)).c = c ∧ (nth fs (fu fs c m)).m = m := (fuF_spec (fs := fs) (c := c) (m := m) fs.length 0).2.2.2 (by unfold fu at h; omega)
theorem fu_eq (hi : i < fs.length) (h : (nth fs i).c = c ∧ (nth fs i).m = m) (hb : ∀ j, j < i → ¬ ((nth fs j).c = c ∧ (nth fs j).m = m)) : fu fs c m = i := by
 have h1 : ¬ i < fu fs c m := fun hl => fu_before hl h
 by_cases e : fu fs c m = i
 ·exact e
 ·exact absurd (fu_at (fs := fs) (c := c) (m := m) (by omega)) (hb _ (by omega))
theorem fu_none (hb : ∀ j, j < fs.length → ¬ ((nth fs j).c = c ∧ (nth fs j).m = m)) : fu fs c m = fs.length := by
 by_cases e : fu fs c m < fs.length
 ·exact absurd (fu_at e) (hb _ e)
 ·have := fu_le (fs := fs) (c := c) (m := m); omega
end
theorem off_succ {cs : List Cl} {i : Nat} (h : i < cs.length) : off cs (i + 1) = off cs i + (nth cs i).ms.length := by
 unfold off
 rw [take_snoc _ _ h, List.map_append, List.sum_append]; simp
theorem off_mono {cs : List Cl} : ∀ {i j : Nat}, i ≤ j → j ≤ cs.length → off cs i ≤ off cs j
 | i, 0, h, _ => by obtain rfl : i = 0 := by omega
                    exact Nat.le_refl _
 | i, j + 1, h, hj => by
   by_cases e : i = j + 1
   ·rw [e]; exact Nat.le_refl _
   ·have := off_mono (cs := cs) (i := i) (j := j) (by omega) (by omega)
    rw [off_succ (by omega)]; omega
theorem off_find {cs : List Cl} {k : Nat} : ∀ {n : Nat}, n ≤ cs.length → k < off cs n → ∃ i j, i < n ∧ j < (nth cs i).ms.length ∧ k = off cs i + j
 | 0, _, h => by simp [off] at h
 | n + 1, hn, h => by
   rw [off_succ (by omega)] at h
   by_cases e : k < off cs n
   ·obtain ⟨i, j, h1, h2, h3⟩ := off_find (n := n) (by omega) e
    exact ⟨i, j, by omega, h2, h3⟩
   ·exact ⟨n, k - off cs n, by omega, by omega, by omega⟩
section
variable {u : Un} (H : UOk u)
include H
theorem UOk.idx {i j : Nat} (hi : i < u.cs.length) (hj : j < (nth u.cs i).ms.length) : off u.cs i + j < u.fs.length := by
 have h1 := off_succ hi
 have h2 := off_mono (cs := u.cs) (i := i + 1) (j := u.cs.length) (by omega) (Nat.le_refl _)
 rw [H.len]; omega
theorem UOk.find {i j : Nat} (hi : i < u.cs.length) (hj : j < (nth u.cs i).ms.length) : fu u.fs (nth u.cs i).n (nth (nth u.cs i).ms j).n = off u.cs i + j := by
 have hf := H.fit i j hi hj
 refine fu_eq (H.idx hi hj) ⟨hf.fc, hf.fm⟩ fun k hk hkk => ?_
 have hkl := H.idx hi hj
 obtain ⟨i', j', h1, h2, h3⟩ := off_find (cs := u.cs) (k := k) (n := u.cs.length) (Nat.le_refl _) (by rw [← H.len]; omega)
 have hf' := H.fit i' j' h1 h2
 rw [← h3] at hf'
 have e1 : (nth u.cs i').n = (nth u.cs i).n := hf'.fc.symm.trans hkk.1
 have e2 : (nth (nth u.cs i').ms j').n = (nth (nth u.cs i).ms j).n := hf'.fm.symm.trans hkk.2
 have ei : i' = i := by
  have d1 := H.h.dist i' h1
  have d2 := H.h.dist i hi
  rw [e1, d2] at d1; exact d1.symm
 subst ei
 rcases Nat.lt_trichotomy j' j with h | h | h
 ·exact H.h.mdist i' h1 j' j h hj e2
 ·omega
 ·exact H.h.mdist i' h1 j j' h h2 e2.symm
theorem UOk.meth {c m : ByteArray} {s : Sg} {a : ByteArray} (h : methP u.cs a m = some (c, s)) : fu u.fs c m < u.fs.length ∧ FitF (nth u.fs (fu u.fs c m)) c s := by
 obtain ⟨h1, h2, h3⟩ := methL_mem h
 have hc := sups_isC h1
 obtain ⟨j, hj, e⟩ := mem_nth h2
 have e1 : (nth u.cs (fd u.cs c)).n = c := fd_at hc
 have := H.find hc hj
 have hn : (nth (nth u.cs (fd u.cs c)).ms j).n = m := by
  show (nth (clOf u.cs c).ms j).n = m
  rw [e, h3]
 rw [e1, hn] at this
 have hf := H.fit _ j hc hj
 rw [e1] at hf
 rw [this]
 exact ⟨H.idx hc hj, by rw [← e]; exact hf⟩
end
end Go.Hir
end
section
namespace Go.Hir
open Go.Dfl (nth nth_mem mem_nth nth_eq nth_ext)
def nmL : List ByteArray := [⟨#[110, 111, 112]⟩, ⟨#[99, 111, 110, 115, 116]⟩, ⟨#[110, 117, 108, 108]⟩, ⟨#[99, 111, 112, 121]⟩, ⟨#[98, 105, 110]⟩, ⟨#[105, 110, 112, 117, 116]⟩, ⟨#[110, 101, 119]⟩, ⟨#[108, 111, 97, 100]⟩, ⟨#[115, 116, 111, 114, 101]⟩, ⟨#[99, 97, 108, 108]⟩, ⟨#[115, 116, 97, 116, 105, 99]⟩, ⟨#[98, 114, 97, 110, 99, 104]⟩, ⟨#[106, 117, 109, 112]⟩, ⟨#[114, 101, 116, 117, 114, 110]⟩, ⟨#[116, 104, 114, 111, 119]⟩, ⟨#[99, 97, 116, 99, 104]⟩, ⟨#[115, 104, 105, 102, 116]⟩]
def fmL : List ByteArray := [⟨#[]⟩, ⟨#[100, 110]⟩, ⟨#[100]⟩, ⟨#[100, 97]⟩, ⟨#[100, 97, 111, 98]⟩, ⟨#[100]⟩, ⟨#[100, 99]⟩, ⟨#[100, 97, 109]⟩, ⟨#[97, 109, 98]⟩, ⟨#[100, 97, 99, 109, 108]⟩, ⟨#[100, 99, 109, 108]⟩, ⟨#[97, 103]⟩, ⟨#[103]⟩, ⟨#[97]⟩, ⟨#[97]⟩, ⟨#[100, 99]⟩, ⟨#[100, 97, 110]⟩]
def nmP (op : Int) : ByteArray := if 0 ≤ op ∧ op < 17 then nth nmL op.toNat else ⟨#[]⟩
theorem nmL_ne : ∀ k, k < 17 → nth nmL k ≠ ⟨#[]⟩ := fun k hk e => by
 have h : ∀ x ∈ nmL, x.size ≠ 0 := by unfold nmL; intro x hx; simp at hx; rcases hx with rfl | rfl | rfl | rfl | rfl | rfl | rfl | rfl | rfl | rfl | rfl | rfl | rfl | rfl | rfl | rfl | rfl <;> simp [ByteArray.size]
 exact h _ (nth_mem _ _ (by show k < 17; exact hk)) (by rw [e]; rfl)
theorem nmP_ne {op : Int} (h : 0 ≤ op ∧ op < 17) : nmP op ≠ ⟨#[]⟩ := by unfold nmP; rw [if_pos h]; exact nmL_ne _ (by omega)
end Go.Hir
namespace Go.Proofs.YtnklnklkblgnfaaGreatDoor
open Go.RowKit Go.Dfl Go.Obs Go.Hir
open Go.Gra (gen_code gen_calls)
set_option maxHeartbeats 1600000 in
theorem rName_at (k : Nat) (hk : k < 17) (W : World) : Calls Tryz.prog 111 #[.int .i64 (k : Int)] W fun e W' => e = .returned (.string (nth nmL k)) ∧ Below W.heap.size W W' := by
 have HE := Lib.hid ((Env.refl W).alloc [.string ⟨#[110, 111, 112]⟩, .string ⟨#[99, 111, 110, 115, 116]⟩, .string ⟨#[110, 117, 108, 108]⟩, .string ⟨#[99, 111, 112, 121]⟩, .string ⟨#[98, 105, 110]⟩, .string ⟨#[105, 110, 112, 117, 116]⟩, .string ⟨#[110, 101, 119]⟩, .string ⟨#[108, 111, 97, 100]⟩, .string ⟨#[115, 116, 111, 114, 101]⟩, .string ⟨#[99, 97, 108, 108]⟩, .string ⟨#[115, 116, 97, 116, 105, 99]⟩, .string ⟨#[98, 114, 97, 110, 99, 104]⟩, .string ⟨#[106, 117, 109, 112]⟩, .string ⟨#[114, 101, 116, 117, 114, 110]⟩, .string ⟨#[116, 104, 114, 111, 119]⟩, .string ⟨#[99, 97, 116, 99, 104]⟩, .string ⟨#[115, 104, 105, 102, 116]⟩] 9)
 have hki : (k : Int) < 17 := by omega
 have hki2 : ¬ (17 : Int) ≤ (k : Int) := by omega
 have hki3 : ¬ 17 ≤ k := by omega
 go_enter Tryz.func111, Tryz.ntmps111
 go_upto_region 2 with fail
 refine gen_code (fun Z => Env W [fkC W.heap.size [.string ⟨#[110, 111, 112]⟩, .string ⟨#[99, 111, 110, 115, 116]⟩, .string ⟨#[110, 117, 108, 108]⟩, .string ⟨#[99, 111, 112, 121]⟩, .string ⟨#[98, 105, 110]⟩, .string ⟨#[105, 110, 112, 117, 116]⟩, .string ⟨#[110, 101, 119]⟩, .string ⟨#[108, 111, 97, 100]⟩, .string ⟨#[115, 116, 111, 114, 101]⟩, .string ⟨#[99, 97, 108, 108]⟩, .string ⟨#[115, 116, 97, 116, 105, 99]⟩, .string ⟨#[98, 114, 97, 110, 99, 104]⟩, .string ⟨#[106, 117, 109, 112]⟩, .string ⟨#[114, 101, 116, 117, 114, 110]⟩, .string ⟨#[116, 104, 114, 111, 119]⟩, .string ⟨#[99, 97, 116, 99, 104]⟩, .string ⟨#[115, 104, 105, 102, 116]⟩]] Z) HE.out ?_
 intro Z hZ
 obtain ⟨b, hb⟩ : ∃ b, b = W.heap.size := ⟨_, rfl⟩
 rw [← hb] at hZ ⊢
 have hc : ∀ j, j < 17 → Z.cell? ⟨b, j, none⟩ = some (.string (nth nmL j)) := fun j hj => by
  match j, hj with
  | 0, _ => exact hZ.cell 0 rfl 0 rfl
  | 1, _ => exact hZ.cell 0 rfl 1 rfl
  | 2, _ => exact hZ.cell 0 rfl 2 rfl
  | 3, _ => exact hZ.cell 0 rfl 3 rfl
  | 4, _ => exact hZ.cell 0 rfl 4 rfl
  | 5, _ => exact hZ.cell 0 rfl 5 rfl
  | 6, _ => exact hZ.cell 0 rfl 6 rfl
  | 7, _ => exact hZ.cell 0 rfl 7 rfl
  | 8, _ => exact hZ.cell 0 rfl 8 rfl
  | 9, _ => exact hZ.cell 0 rfl 9 rfl
  | 10, _ => exact hZ.cell 0 rfl 10 rfl
  | 11, _ => exact hZ.cell 0 rfl 11 rfl
  | 12, _ => exact hZ.cell 0 rfl 12 rfl
  | 13, _ => exact hZ.cell 0 rfl 13 rfl
  | 14, _ => exact hZ.cell 0 rfl 14 rfl
  | 15, _ => exact hZ.cell 0 rfl 15 rfl
  | 16, _ => exact hZ.cell 0 rfl 16 rfl
  | j + 17, hj => omega
 have o0 := hc k hk
 have HZ := Lib.hid hZ.bel
 obtain ⟨y, hy⟩ : ∃ y, y = nth nmL k := ⟨_, rfl⟩
 rw [← hy] at o0
 have HY := Lib.hid hy
 clear hZ hc hb HE hy
 go_wp2_with fail
 go_ret
 exact ⟨by rw [← HY.out]; rfl, HZ.out⟩
set_option maxHeartbeats 1600000 in
theorem rForm_at (k : Nat) (hk : k < 17) (W : World) : Calls Tryz.prog 151 #[.int .i64 (k : Int)] W fun e W' => e = .returned (.string (nth fmL k)) ∧ Below W.heap.size W W' := by
 have HE := Lib.hid ((Env.refl W).alloc [.string ⟨#[]⟩, .string ⟨#[100, 110]⟩, .string ⟨#[100]⟩, .string ⟨#[100, 97]⟩, .string ⟨#[100, 97, 111, 98]⟩, .string ⟨#[100]⟩, .string ⟨#[100, 99]⟩, .string ⟨#[100, 97, 109]⟩, .string ⟨#[97, 109, 98]⟩, .string ⟨#[100, 97, 99, 109, 108]⟩, .string ⟨#[100, 99, 109, 108]⟩, .string ⟨#[97, 103]⟩, .string ⟨#[103]⟩, .string ⟨#[97]⟩, .string ⟨#[97]⟩, .string ⟨#[100, 99]⟩, .string ⟨#[100, 97, 110]⟩] 9)
 have hki : (k : Int) < 17 := by omega
 have hki2 : ¬ (17 : Int) ≤ (k : Int) := by omega
 have hki3 : ¬ 17 ≤ k := by omega
 go_enter Tryz.func151, Tryz.ntmps151
 go_upto_region 2 with fail
 refine gen_code (fun Z => Env W [fkC W.heap.size [.string ⟨#[]⟩, .string ⟨#[100, 110]⟩, .string ⟨#[100]⟩, .string ⟨#[100, 97]⟩, .string ⟨#[100, 97, 111, 98]⟩, .string ⟨#[100]⟩, .string ⟨#[100, 99]⟩, .string ⟨#[100, 97, 109]⟩, .string ⟨#[97, 109, 98]⟩, .string ⟨#[100, 97, 99, 109, 108]⟩, .string ⟨#[100, 99, 109, 108]⟩, .string ⟨#[97, 103]⟩, .string ⟨#[103]⟩, .string ⟨#[97]⟩, .string ⟨#[97]⟩, .string ⟨#[100, 99]⟩, .string ⟨#[100, 97, 110]⟩]] Z) HE.out ?_
 intro Z hZ
 obtain ⟨b, hb⟩ : ∃ b, b = W.heap.size := ⟨_, rfl⟩
 rw [← hb] at hZ ⊢
 have hc : ∀ j, j < 17 → Z.cell? ⟨b, j, none⟩ = some (.string (nth fmL j)) := fun j hj => by
  match j, hj with
  | 0, _ => exact hZ.cell 0 rfl 0 rfl
  | 1, _ => exact hZ.cell 0 rfl 1 rfl
  | 2, _ => exact hZ.cell 0 rfl 2 rfl
  | 3, _ => exact hZ.cell 0 rfl 3 rfl
  | 4, _ => exact hZ.cell 0 rfl 4 rfl
  | 5, _ => exact hZ.cell 0 rfl 5 rfl
  | 6, _ => exact hZ.cell 0 rfl 6 rfl
  | 7, _ => exact hZ.cell 0 rfl 7 rfl
  | 8, _ => exact hZ.cell 0 rfl 8 rfl
  | 9, _ => exact hZ.cell 0 rfl 9 rfl
  | 10, _ => exact hZ.cell 0 rfl 10 rfl
  | 11, _ => exact hZ.cell 0 rfl 11 rfl
  | 12, _ => exact hZ.cell 0 rfl 12 rfl
  | 13, _ => exact hZ.cell 0 rfl 13 rfl
  | 14, _ => exact hZ.cell 0 rfl 14 rfl
  | 15, _ => exact hZ.cell 0 rfl 15 rfl
  | 16, _ => exact hZ.cell 0 rfl 16 rfl
  | j + 17, hj => omega
 have o0 := hc k hk
 have HZ := Lib.hid hZ.bel
 obtain ⟨y, hy⟩ : ∃ y, y = nth fmL k := ⟨_, rfl⟩
 rw [← hy] at o0
 have HY := Lib.hid hy
 clear hZ hc hb HE hy
 go_wp2_with fail
 go_ret
 exact ⟨by rw [← HY.out]; rfl, HZ.out⟩
set_option maxHeartbeats 1600000 in
theorem rName_any (op : Int) (W : World) : Calls Tryz.prog 111 #[.int .i64 op] W fun e W' => e = .returned (.string (nmP op)) ∧ Below W.heap.size W W' := by
 by_cases h : 0 ≤ op ∧ op < 17
 ·obtain ⟨k, rfl⟩ : ∃ k : Nat, op = (k : Int) := ⟨op.toNat, by omega⟩
  have := rName_at k (by omega) W
  unfold nmP
  rw [if_pos h, Int.toNat_natCast]
  exact this
 ·have HE := Lib.hid ((Env.refl W).alloc [.string ⟨#[110, 111, 112]⟩, .string ⟨#[99, 111, 110, 115, 116]⟩, .string ⟨#[110, 117, 108, 108]⟩, .string ⟨#[99, 111, 112, 121]⟩, .string ⟨#[98, 105, 110]⟩, .string ⟨#[105, 110, 112, 117, 116]⟩, .string ⟨#[110, 101, 119]⟩, .string ⟨#[108, 111, 97, 100]⟩, .string ⟨#[115, 116, 111, 114, 101]⟩, .string ⟨#[99, 97, 108, 108]⟩, .string ⟨#[115, 116, 97, 116, 105, 99]⟩, .string ⟨#[98, 114, 97, 110, 99, 104]⟩, .string ⟨#[106, 117, 109, 112]⟩, .string ⟨#[114, 101, 116, 117, 114, 110]⟩, .string ⟨#[116, 104, 114, 111, 119]⟩, .string ⟨#[99, 97, 116, 99, 104]⟩, .string ⟨#[115, 104, 105, 102, 116]⟩] 9)
  have he : nmP op = ⟨#[]⟩ := if_neg h
  rw [he]
  by_cases h0 : op < 0
  ·clear h he
   go_enter Tryz.func111, Tryz.ntmps111
   go_wp2_with fail
   go_ret
   exact ⟨rfl, HE.out.bel⟩
  ·have h1 : 17 ≤ op := by omega
   clear h he
   go_enter Tryz.func111, Tryz.ntmps111
   go_wp2_with fail
   go_ret
   exact ⟨rfl, HE.out.bel⟩
end Go.Proofs.YtnklnklkblgnfaaGreatDoor
end
section
namespace Go.Hir
open Go.Dfl (nth nth_mem mem_nth nth_eq nth_ext)
def bt (s : ByteArray) (j : Nat) : Nat := if h : j < s.size then (s[j]).toNat else 0
def hit (ch c : Nat) : Bool := c == ch || (ch == 110 && c == 111)
theorem form_at : ∀ k : Nat, k < 17 → form (k : Int) = (List.range (nth fmL k).size).map (bt (nth fmL k)) := by
 intro k hk
 match k, hk with
 | 0, _ => exact by decide
 | 1, _ => exact by decide
 | 2, _ => exact by decide
 | 3, _ => exact by decide
 | 4, _ => exact by decide
 | 5, _ => exact by decide
 | 6, _ => exact by decide
 | 7, _ => exact by decide
 | 8, _ => exact by decide
 | 9, _ => exact by decide
 | 10, _ => exact by decide
 | 11, _ => exact by decide
 | 12, _ => exact by decide
 | 13, _ => exact by decide
 | 14, _ => exact by decide
 | 15, _ => exact by decide
 | 16, _ => exact by decide
 | k + 17, hk => omega
theorem hasB_at {k ch : Nat} (hk : k < 17) : hasB (k : Int) ch = true ↔ ∃ j, j < (nth fmL k).size ∧ hit ch (bt (nth fmL k) j) = true := by
 unfold hasB
 rw [form_at k hk]
 unfold hit
 simp only [Bool.or_eq_true, Bool.and_eq_true, beq_iff_eq, List.contains_iff_mem, List.mem_map, List.mem_range]
 constructor
 ·rintro (⟨j, hj, h⟩ | ⟨h1, j, hj, h⟩)
  ·exact ⟨j, hj, .inl h⟩
  ·exact ⟨j, hj, .inr ⟨h1, h⟩⟩
 ·rintro ⟨j, hj, h | ⟨h1, h⟩⟩
  ·exact .inl ⟨j, hj, h⟩
  ·exact .inr ⟨h1, j, hj, h⟩
end Go.Hir
namespace Go.Proofs.YtnklnklkblgnfaaGreatDoor
open Go.RowKit Go.Dfl Go.Obs Go.Hir
open Go.Gra (gen_code gen_calls)
set_option maxHeartbeats 1600000 in
theorem rHas_at (k ch : Nat) (hk : k < 17) (W : World) : Calls Tryz.prog 136 #[.int .i64 (k : Int), .int .u8 (ch : Int)] W fun e W' => e = .returned (.bool (hasB (k : Int) ch)) ∧ Below W.heap.size W W' := by
 go_enter Tryz.func136, Tryz.ntmps136
 go_wp2_with fail
 refine (rName_any _ _).mono ?_
 rintro e W1 ⟨rfl, b1⟩
 obtain ⟨y, hy⟩ : ∃ y, y = nmP (k : Int) := ⟨_, rfl⟩
 have t0 := tl_ne (nmP_ne (op := (k : Int)) (by omega))
 have t1 := te_ne (nmP_ne (op := (k : Int)) (by omega))
 rw [← hy] at t0 t1 ⊢
 have H1 := Lib.hid b1
 clear b1 hy
 go_wp2_with fail
 refine (rForm_at k hk _).mono ?_
 rintro e W2 ⟨rfl, b2⟩
 have H2 := Lib.hid (H1.out.trans (b2.mono H1.out.size))
 obtain ⟨s, hs⟩ : ∃ s, s = nth fmL k := ⟨_, rfl⟩
 rw [← hs]
 have hsz : s.size ≤ 8 := by
  have h : ∀ x ∈ fmL, x.size ≤ 8 := by unfold fmL; intro x hx; simp at hx; rcases hx with rfl | rfl | rfl | rfl | rfl | rfl | rfl | rfl | rfl | rfl | rfl | rfl | rfl | rfl | rfl | rfl | rfl <;> simp [ByteArray.size]
  rw [hs]; exact h _ (nth_mem _ _ hk)
 have HS := Lib.hid hs
 clear b2 hs t0 t1
 go_wp2_with fail
 go_loop [6] (fun x => ∃ j : Nat, j ≤ s.size ∧ x = .int .i64 (j : Int) ∧ Hid (∀ i, i < j → hit ch (bt s i) = false)) (fun x => s.size - (intOf x).toNat)
 case atStart => exact ⟨0, by omega, rfl, fun i hi => by omega⟩
 case round =>
  obtain ⟨j, hj, rfl, hh⟩ := hrel
  by_cases hlt : j < s.size
  ·have hji : (j : Int) < (s.size : Int) := by omega
   have hix : ∀ W, (Instr.index 9 (.string s) (.int .i64 (j : Int))).run Tryz.prog W = .ok (.int .u8 (bt s j : Int)) W := fun W => by
    rw [run_index_string 9 s .i64 _ Tryz.underlying9 (w := W), dif_pos ⟨by omega, by omega⟩]
    simp only [Int.toNat_natCast]
    unfold bt
    rw [dif_pos hlt]
   have hnew : Hid (hit ch (bt s j) = true → hasB (k : Int) ch = true) := Lib.hid fun h => (hasB_at hk).2 ⟨j, by rw [← HS.out]; exact hlt, by rw [← HS.out]; exact h⟩
   have hnext : Hid (hit ch (bt s j) = false → ∀ i, i < j + 1 → hit ch (bt s i) = false) := Lib.hid fun h i hi => by
    by_cases e : i = j
    ·rw [e]; exact h
    ·exact hh.out i (by omega)
   obtain ⟨c, hc⟩ : ∃ c, c = bt s j := ⟨_, rfl⟩
   rw [← hc] at hix hnew hnext
   clear hc
   by_cases h1 : c = ch
   ·have HT := Lib.hid (hnew.out (by unfold hit; simp [h1]))
    subst h1
    go_wp2_with fail
    go_ret
    exact ⟨by rw [HT.out]; rfl, H2.out⟩
   ·have h1i : ((c : Int) == (ch : Int)) = false := by simp; omega
    by_cases h2 : ch = 110
    ·subst h2
     by_cases h3 : c = 111
     ·have HT := Lib.hid (hnew.out (by unfold hit; simp [h3]))
      subst h3
      go_wp2_with fail
      go_ret
      exact ⟨by rw [HT.out]; rfl, H2.out⟩
     ·have h3i : ((c : Int) == 111) = false := by simp; omega
      have HT := Lib.hid (hnext.out (by unfold hit; simp [h1, h3]))
      go_wp2_with fail
      go_round
      case rel => exact ⟨j + 1, by omega, by go_num, HT.out⟩
      case measure => simp [intOf]; omega
    ·have h2i : ((ch : Int) == 110) = false := by simp; omega
     have HT := Lib.hid (hnext.out (by unfold hit; simp [h1, h2]))
     go_wp2_with fail
     go_round
     case rel => exact ⟨j + 1, by omega, by go_num, HT.out⟩
     case measure => simp [intOf]; omega
  ·obtain rfl : j = s.size := by omega
   have HT := Lib.hid (show hasB (k : Int) ch = false by
    rw [Bool.eq_false_iff]
    intro h
    obtain ⟨i, hi, e⟩ := (hasB_at hk).1 h
    rw [← HS.out] at hi e
    rw [hh.out i hi] at e; cases e)
   clear hlt hj
   go_wp2_with fail
   go_ret
   exact ⟨by rw [HT.out]; rfl, H2.out⟩
set_option maxHeartbeats 800000 in
theorem rHas_any (op : Int) (ch : Nat) (W : World) : Calls Tryz.prog 136 #[.int .i64 op, .int .u8 (ch : Int)] W fun e W' => e = .returned (.bool (hasB op ch)) ∧ Below W.heap.size W W' := by
 by_cases h : 0 ≤ op ∧ op < 17
 ·obtain ⟨k, rfl⟩ : ∃ k : Nat, op = (k : Int) := ⟨op.toNat, by omega⟩
  exact rHas_at k ch (by omega) W
 ·have he : nmP op = ⟨#[]⟩ := if_neg h
  have hb : hasB op ch = false := by
   have hf : form op = [] := by unfold form; repeat rw [if_neg (by omega)]
   unfold hasB; rw [hf]; simp
  rw [hb]
  have HE := Lib.hid he
  clear hb h he
  go_enter Tryz.func136, Tryz.ntmps136
  go_wp2_with fail
  refine (rName_any _ _).mono ?_
  rintro e W1 ⟨rfl, b1⟩
  rw [HE.out]
  have H1 := Lib.hid b1
  clear b1
  go_wp2_with fail
  go_ret
  exact ⟨rfl, H1.out⟩
end Go.Proofs.YtnklnklkblgnfaaGreatDoor
end
section
namespace Go.Dfl
section
variable {α : Type} [Inhabited α] {E : El α}
theorem set_ext {l : List α} {i : Nat} {y : α} {j : Nat} (h : j < l.length) : nth (l.set i y) j = if i = j then y else nth l j := by
 rw [nth_set]
 by_cases e : i = j
 ·rw [if_pos ⟨e, by omega⟩, if_pos e]
 ·rw [if_neg (fun h => e h.1), if_neg e]
theorem flat_set (l : List α) (i j : Nat) (_hi : i < l.length) (hj : j < E.sz) (y : α) (x : Value) (hy : E.c y = (E.c (nth l i)).set j x) : (l.set i y).flatMap E.c = (l.flatMap E.c).set (i * E.sz + j) x := by
 refine List.ext_getElem? fun q => ?_
 have hlen : (l.set i y).length = l.length := List.length_set
 by_cases hq : q < l.length * E.sz
 ·have hp := E.pos
  have hqd : q = q / E.sz * E.sz + q % E.sz := by have := Nat.div_add_mod q E.sz; rw [Nat.mul_comm] at this; omega
  have h1 : q / E.sz < l.length := (Nat.div_lt_iff_lt_mul hp).2 hq
  have h2 : q % E.sz < E.sz := Nat.mod_lt _ hp
  rw [hqd, flat_get E _ _ _ (by omega) h2, set_ext h1, List.getElem?_set]
  by_cases e : i = q / E.sz
  ·rw [if_pos e, hy, List.getElem?_set]
   by_cases e2 : j = q % E.sz
   ·rw [if_pos e2, if_pos (by rw [E.len]; exact hj), if_pos (by rw [e, e2]), if_pos (by rw [flat_len, e, e2, ← hqd]; exact hq)]
   ·rw [if_neg e2, if_neg (by rw [e]; omega), e, flat_get E _ _ _ h1 h2]
  ·have hne : i * E.sz + j ≠ q / E.sz * E.sz + q % E.sz := fun h => e (by
    have a1 : (i * E.sz + j) / E.sz = i := by rw [Nat.mul_comm, Nat.mul_add_div hp, Nat.div_eq_of_lt hj, Nat.add_zero]
    rw [h, ← hqd] at a1; exact a1.symm)
   rw [if_neg e, if_neg hne, flat_get E _ _ _ h1 h2]
 ·rw [List.getElem?_eq_none (by rw [flat_len, hlen]; omega), List.getElem?_eq_none (by rw [List.length_set, flat_len]; omega)]
theorem OwnE.upd {w : World} {base : Nat} {e : TypeId} {a : Option Addr} {c : Nat} {l : List α} (h : OwnE E w base e (.slice a l.length c) l) (i j : Nat) (hi : i < l.length) (hj : j < E.sz) (y : α) (x : Value) (hy : E.c y = (E.c (nth l i)).set j x) :
  OwnE E (w.setCell ⟨blk a, ofs a + (i * E.sz + j), none⟩ x) base e (.slice a l.length c) (l.set i y) ∧ w.grownBy (w.setCell ⟨blk a, ofs a + (i * E.sz + j), none⟩ x) (Value.slice a l.length c).ownBlock ∧ w.frozen? ⟨blk a, ofs a + (i * E.sz + j), none⟩ = false ∧ w.cell? ⟨blk a, ofs a + (i * E.sz + j), none⟩ = (E.c (nth l i))[j]? := by
 have h0 := h
 obtain ⟨h1, ⟨h9, h2⟩ | ⟨g, cap, cur, hv, hg, hh, hc, hm, hsz, htk⟩⟩ := h
 ·omega
 simp only [Value.slice.injEq] at hv
 obtain ⟨rfl, -, rfl⟩ := hv
 have hlt : i * E.sz + j < l.length * E.sz := by
  have : i * E.sz + E.sz ≤ l.length * E.sz := by rw [← Nat.succ_mul]; exact Nat.mul_le_mul_right _ hi
  omega
 have e1 : (⟨blk (some ⟨g, 0, none⟩), ofs (some ⟨g, 0, none⟩) + (i * E.sz + j), none⟩ : Addr) = ⟨g, i * E.sz + j, none⟩ := by simp [blk, ofs]
 rw [e1]
 refine ⟨?_, ?_, World.ownsRow.frozenAt h0 _, ?_⟩
 ·have := World.ownsRow.stored h0 (i * E.sz + j) x
  unfold OwnE
  rw [List.length_set, flat_set l i j hi hj y x hy]
  exact this.1
 ·exact grownBy_setCell _ _ _
 ·rw [World.ownsRow.cellAt h0 _ hlt, flat_get E _ _ _ hi hj]
omit [Inhabited α] in
theorem OwnE.front {P : Program} {t e : TypeId} {z : Value} {by8 : Nat} (ht : SliceOf P t e z E.sz by8) {w : World} {base : Nat} {a : Option Addr} {c : Nat} {l : List α} (h : OwnE E w base e (.slice a l.length c) l) (k : Nat) (hk : k ≤ l.length) :
  (∀ W, (Instr.slice t (.slice a l.length c) none (some (.int .i64 (k : Int))) none).run P W = .ok (.slice a k c) W) ∧ OwnE E w base e (.slice a k c) (l.take k) := by
 obtain ⟨i, hi, _, hs, _⟩ := ht.info
 have hlt : (l.take k).length = k := by simp; omega
 obtain ⟨h1, ⟨hv, h2⟩ | ⟨g, cap, cur, hv, hg, hh, hc, hm, hsz, htk⟩⟩ := h
 ·obtain rfl : k = 0 := by omega
  have hl : l = [] := List.eq_nil_of_length_eq_zero h2
  subst hl
  simp only [Value.slice.injEq] at hv
  obtain ⟨rfl, -, rfl⟩ := hv
  refine ⟨fun W => ?_, OwnE.nil _ _ _ _⟩
  simp [Instr.slice, run_underlying ht.und, Instr.sliceBounds, Instr.sliceBound, asIntOf, run_sizeOf _ hi]
 ·simp only [Value.slice.injEq] at hv
  obtain ⟨rfl, -, rfl⟩ := hv
  refine ⟨fun W => ?_, ⟨by rw [flat_len], .inr ⟨g, c, cur, by rw [hlt], hg, hh, by omega, hm, hsz, ?_⟩⟩⟩
  ·have h1' : k ≤ c := by omega
   simp [Instr.slice, run_underlying ht.und, Instr.sliceBounds, Instr.sliceBound, asIntOf, h1', run_sizeOf _ hi, Addr.add]
  ·rw [hlt, flat_take l k hk, ← htk, List.take_take, Nat.min_eq_left (Nat.mul_le_mul_right _ hk)]
end
end Go.Dfl
end
section
namespace Go.Hir
open Go.Obs
def cA (x : Is) : Bool := hasB x.op 97 && (x.op != 13 || x.a != -1)
def usA (x : Is) : List Int := if cA x = true then [x.a] else []
def usB (x : Is) : List Int := if hasB x.op 98 = true then [x.b] else []
def usC (x : Is) : List Int := if hasB x.op 108 = true then x.ar else []
def usL (x : Is) : List Int := usA x ++ usB x ++ usC x
end Go.Hir
namespace Go.Proofs.YtnklnklkblgnfaaGreatDoor
open Go.RowKit Go.Dfl Go.Obs Go.Hir
open Go.Gra (gen_code gen_calls)
def elI1 : El Int := ⟨1, fun s => [.int .i64 s], fun _ => rfl, fun x v hv => by simp at hv; rw [hv]; rfl, by omega⟩
theorem sInt1 : SliceOf Tryz.prog 77 3 (.int .i64 0) 1 8 := ⟨Tryz.underlying77, info_parts (P := Tryz.prog) (e := 3) (by kernel_rfl)⟩
theorem own_inI {W : World} {B : Nat} {v : Value} {l : List Int} (h : OwnE elI1 W B 3 v l) (hl : ∀ x ∈ l, inI x) : InS vI W v l :=
 ⟨_, OwnE.sliced h, fun i hi => by
  refine ⟨?_, hl _ (nth_mem _ _ hi)⟩
  show (List.range 1).map _ = _
  simp [elI1]⟩
theorem InS.ints1 {W : World} {v : Value} {l : List Int} (h : InS vI W v l) : ∃ a c, v = .slice a l.length c ∧ l.length ≤ 9223372036854775807 ∧
  (∀ x : Int, 0 ≤ x → x < l.length → ∀ W, (Instr.indexAt 77 (.slice a l.length c) (.int .i64 x)).run Tryz.prog W = .ok (.pointer (some ⟨blk a, ofs a + x.toNat, none⟩)) W) ∧
  ∀ i, i < l.length → blk a < W.heap.size ∧ inI (nth l i) ∧ ∀ Z, Below W.heap.size W Z → Z.cell? ⟨blk a, ofs a + i, none⟩ = some (.int .i64 (nth l i)) := by
 obtain ⟨oa, oc, he, hl, hi, hc⟩ := InS.out h sInt1
 refine ⟨oa, oc, he, hl, fun x h0 h1 W => by have := hi x h0 h1 W; simpa [vI] using this, fun i hil => ?_⟩
 obtain ⟨h1, cs, hok, h3⟩ := hc i hil
 obtain ⟨rfl, hb⟩ := hok
 exact ⟨h1, hb, fun Z hZ => by have := h3 Z hZ 0 (by decide); simpa [vI, nth] using this⟩
theorem InS.inI_all {W : World} {v : Value} {l : List Int} (h : InS vI W v l) : ∀ x ∈ l, inI x := fun x hx => by
 obtain ⟨i, hi, rfl⟩ := mem_nth hx
 obtain ⟨_, h2⟩ := h
 exact (h2.2 i hi).2
theorem InS.srcI {W Z : World} {v : Value} {l : List Int} (h : InS vI W v l) (hZ : Below W.heap.size W Z) : SrcE elI1 Z v l := by
 have h' := h
 obtain ⟨oa, oc, he, hl, hi, hc⟩ := InS.ints1 h
 obtain ⟨c, ⟨a0, cap, he2, h1, h2, h3⟩, h4⟩ := h'
 rw [he] at he2
 injection he2 with e1 e2 e3
 subst e1
 refine ⟨oa, oc, he, fun hn => ?_, fun j y hj => ?_⟩
 ·rcases Nat.eq_zero_or_pos l.length with h0 | h0
  ·exact h0
  ·obtain ⟨ha, -, -⟩ := h3 0 h0
   rw [hn] at ha; cases ha
 ·have hfl : l.flatMap elI1.c = l.map fun x => .int .i64 x := by
   show l.flatMap (fun x => [Value.int .i64 x]) = _
   rw [← List.map_eq_flatMap]
  rw [hfl] at hj
  have hjl : j < l.length := by
   rcases Nat.lt_or_ge j l.length with h0 | h0
   ·exact h0
   ·rw [List.getElem?_eq_none (by simpa using h0)] at hj; cases hj
  obtain ⟨ha, -, -⟩ := h3 0 (by omega)
  refine ⟨_, ha, ?_⟩
  have h5 := (hc j hjl).2.2 Z hZ
  rw [List.getElem?_map, List.getElem?_eq_getElem hjl] at hj
  simp at hj
  rw [← hj, ← nth_eq l j hjl]
  unfold Addr.add
  split
  ·next h0 => subst h0; exact h5
  ·exact h5
abbrev isV (x : Is) (v : Value) : Value := .agg #[.int .i64 x.op, .int .i64 x.d, .int .i64 x.a, .int .i64 x.b, .int .i64 x.n, .string x.c, .string x.m, v, .int .i64 x.g, .int .i64 x.ct]
abbrev isC' (x : Is) (v : Value) : List Value := [.int .i64 x.op, .int .i64 x.d, .int .i64 x.a, .int .i64 x.b, .int .i64 x.n, .string x.c, .string x.m, v, .int .i64 x.g, .int .i64 x.ct]
set_option maxHeartbeats 6400000 in
theorem rUses_any (x : Is) (v : Value) (W : World) (h : InS vI W v x.ar) (hl : x.ar.length ≤ 1048576) (ha : inI x.a) (hb : inI x.b) :
  Calls Tryz.prog 137 #[isV x v] W fun e W' => ∃ a c, e = .returned (.slice a (usL x).length c) ∧ InS vI W' (.slice a (usL x).length c) (usL x) ∧ Below W.heap.size W W' := by
 have HE := Lib.hid (And.intro ((Env.refl W).alloc (isC' x v) 79) (show W.heap.size + 1 ≤ (W.alloc (.cells (isC' x v).toArray 79)).heap.size by rw [World.size_alloc]; omega))
 obtain ⟨va, vc, rfl⟩ := h.shape
 have HC := Lib.hid (And.intro h (And.intro ha (And.intro hb hl)))
 have hal : x.ar.length ≤ 1048576 := hl
 obtain ⟨an, han⟩ : ∃ an, an = x.ar.length := ⟨_, rfl⟩
 rw [← han] at HE hal ⊢
 have HAN := Lib.hid han
 clear h ha hb hl han
 unfold isV
 go_enter Tryz.func137, Tryz.ntmps137
 go_upto_region 2 with fail
 refine gen_code (fun Z => Env W [fkC W.heap.size (isC' x (.slice va an vc))] Z ∧ W.heap.size + 1 ≤ Z.heap.size) HE.out ?_
 intro Z hZ
 obtain ⟨b, hb⟩ : ∃ b, b = W.heap.size := ⟨_, rfl⟩
 rw [← hb] at hZ ⊢
 have HZ := Lib.hid (And.intro hZ.1 (And.intro hZ.2 hb))
 have d0 := hZ.1.cell 0 rfl 0 rfl
 have d2 := hZ.1.cell 0 rfl 2 rfl
 clear hZ hb HE
 obtain ⟨qa, hqa⟩ : ∃ q, q = cA x := ⟨_, rfl⟩
 have HQA := Lib.hid hqa
 clear hqa
 go_cut [16] (fun q wx => q = .bool qa ∧ Env W [fkC b (isC' x (.slice va an vc))] wx ∧ b + 1 ≤ wx.heap.size)
 case first =>
  go_wp2_with fail
  refine (rHas_any x.op 97 _).mono ?_
  rintro e W1 ⟨rfl, b1⟩
  have H1 := Lib.hid (And.intro (HZ.out.1.below b1) (Nat.le_trans HZ.out.2.1 b1.size))
  obtain ⟨ba, hba⟩ : ∃ ba, ba = hasB x.op 97 := ⟨_, rfl⟩
  rw [← hba]
  have HBA := Lib.hid hba
  have e0 := H1.out.1.cell 0 rfl 0 rfl
  have e2 := H1.out.1.cell 0 rfl 2 rfl
  clear b1 d0 d2 hba
  cases ba
  ·have HT := Lib.hid (show qa = false by rw [HQA.out]; unfold cA; rw [← HBA.out]; rfl)
   go_wp2_with fail
   go_meet
   case rel => exact ⟨by rw [HT.out], H1.out⟩
  ·by_cases h13 : x.op = 13
   ·have t13 : (x.op != 13) = false := by simp [h13]
    have t13' : (x.op == 13) = true := by simp [h13]
    by_cases ha1 : x.a = -1
    ·have t1 : (x.a != -1) = false := by simp [ha1]
     have t1' : (x.a == -1) = true := by simp [ha1]
     have HT := Lib.hid (show qa = false by rw [HQA.out]; unfold cA; rw [← HBA.out, h13, ha1]; rfl)
     clear h13 ha1
     go_wp2_with fail
     go_meet
     case rel => exact ⟨by rw [HT.out], H1.out⟩
    ·have t1 : (x.a != -1) = true := by simpa using ha1
     have t1' : (x.a == -1) = false := by simpa using ha1
     have HT := Lib.hid (show qa = true by rw [HQA.out]; unfold cA; rw [← HBA.out, t1]; simp)
     clear h13 ha1
     go_wp2_with fail
     go_meet
     case rel => exact ⟨by rw [HT.out], H1.out⟩
   ·have t13 : (x.op != 13) = true := by simpa using h13
    have t13' : (x.op == 13) = false := by simpa using h13
    have HT := Lib.hid (show qa = true by rw [HQA.out]; unfold cA; rw [← HBA.out, t13]; rfl)
    clear h13
    go_wp2_with fail
    go_meet
    case rel => exact ⟨by rw [HT.out], H1.out⟩
 case rest =>
 obtain ⟨rfl, h1, h2⟩ := hcut
 have H1 := Lib.hid (And.intro h1 h2)
 clear h1 h2 d0 d2
 have HL1 := Lib.hid (show (usA x).length ≤ 1 by unfold usA; split <;> simp)
 go_upto_if 16 with fail
 go_cut [3] (fun y wx => ∃ a1 c1, y = .slice a1 (usA x).length c1 ∧ OwnE elI1 wx (b + 1) 3 (.slice a1 (usA x).length c1) (usA x) ∧ Env W [fkC b (isC' x (.slice va an vc))] wx ∧ b + 1 ≤ wx.heap.size)
 case first =>
  cases qa
  ·have hl : usA x = [] := by unfold usA; rw [← HQA.out]; rfl
   go_wp2_with fail
   go_meet
   case rel => exact ⟨none, 0, by rw [hl]; rfl, by rw [hl]; exact OwnE.nil _ _ _ _, H1.out⟩
  ·have HL := Lib.hid (show usA x = [x.a] by unfold usA; rw [← HQA.out]; rfl)
   have e2 := H1.out.1.cell 0 rfl 2 rfl
   have HP := Lib.hid (And.intro (OwnE.nil elI1 wc (b + 1) 3) H1.out)
   have hO := OwnE.grown HP.out.1 (grownBy_alloc wc (.cells #[.int .i64 x.a] 3)) (by first | exact .inl rfl | (cases (.slice none 0 0 : Value).ownBlock <;> simp))
   have hEn := HP.out.2.1.grown1 (grownBy_alloc wc (.cells #[.int .i64 x.a] 3)) (fun q e => by cases e)
   have HO := Lib.hid (And.intro hO hEn)
   have hl1 : (([] : List Int).length + 1) * 8 ≤ 140737488355328 := by first | decide | (simp; omega) | omega
   have hl2 : ([] : List Int).length + 1 ≤ 1000000000000 := by first | decide | (simp; omega) | omega
   have hl3 : b + 1 ≤ (wc.alloc (.cells #[.int .i64 x.a] 3)).heap.size := by rw [World.size_alloc]; have := HP.out.2.2; omega
   clear hO hEn
   go_wp2_with (at_builtin; refine wp_appendE (E := elI1) sInt1 rfl rfl _ _ rfl (v := .slice none 0 0) (l := ([] : List Int)) (base := b + 1) rfl wc.heap.size rfl HO.out.1 x.a (cells_new (W := wc) (cs := [.int .i64 x.a]) (t := 3) rfl) hl1 hl2 hl3 ?_; intro v' w3 hown hgr hat; obtain ⟨s9, c9, rfl⟩ := hown.shape (n := 0 + 1) (by simp); have hE3 := HO.out.2.grown1 hgr (fun q e => by have h1 := (OwnE.lt HO.out.1 q e).1; have h2 := HZ.out.2.2; omega); have hz3 := Nat.le_trans hl3 hgr.size; have H3 := Lib.hid (And.intro hown (And.intro hE3 hz3)); clear hown hgr hat hE3 hz3)
   go_meet
   case rel => exact ⟨s9, c9, by rw [HL.out]; rfl, by rw [HL.out]; exact H3.out⟩
 case rest =>
 obtain ⟨a1, c1, rfl, h1, h2⟩ := hcut
 have HP0 := Lib.hid (And.intro h1 h2)
 have d0 := h2.1.cell 0 rfl 0 rfl
 clear h1 h2 HQA H1
 go_wp2_with fail
 refine (rHas_any x.op 98 _).mono ?_
 rintro e W3 ⟨rfl, b3⟩
 obtain ⟨qb, hqb⟩ : ∃ q, q = hasB x.op 98 := ⟨_, rfl⟩
 rw [← hqb]
 have HQB := Lib.hid hqb
 have HP := Lib.hid (And.intro (OwnE.grown HP0.out.1 (grownBy_below b3) (by cases (Value.slice a1 (usA x).length c1).ownBlock <;> simp)) (And.intro (HP0.out.2.1.below b3) (Nat.le_trans HP0.out.2.2 b3.size)))
 clear hqb b3 d0 HP0
 go_upto_if 24 with fail
 go_cut [3] (fun y wx => ∃ a1 c1, y = .slice a1 (usA x ++ usB x).length c1 ∧ OwnE elI1 wx (b + 1) 3 (.slice a1 (usA x ++ usB x).length c1) (usA x ++ usB x) ∧ Env W [fkC b (isC' x (.slice va an vc))] wx ∧ b + 1 ≤ wx.heap.size)
 case first =>
  cases qb
  ·have hl : usB x = [] := by unfold usB; rw [← HQB.out]; rfl
   go_wp2_with fail
   go_meet
   case rel => exact ⟨a1, c1, by rw [hl, List.append_nil], by rw [hl, List.append_nil]; exact HP.out⟩
  ·have HL := Lib.hid (show usB x = [x.b] by unfold usB; rw [← HQB.out]; rfl)
   have e2 := HP.out.2.1.cell 0 rfl 3 rfl
   have hlA := HL1.out
   obtain ⟨wc, hwc⟩ : ∃ w, w = W3 := ⟨_, rfl⟩
   rw [← hwc] at HP e2 ⊢
   clear hwc
   have hO := OwnE.grown HP.out.1 (grownBy_alloc wc (.cells #[.int .i64 x.b] 3)) (by first | exact .inl rfl | (cases (.slice a1 (usA x).length c1 : Value).ownBlock <;> simp))
   have hEn := HP.out.2.1.grown1 (grownBy_alloc wc (.cells #[.int .i64 x.b] 3)) (fun q e => by cases e)
   have HO := Lib.hid (And.intro hO hEn)
   have hl1 : ((usA x).length + 1) * 8 ≤ 140737488355328 := by first | decide | (simp; omega) | omega
   have hl2 : (usA x).length + 1 ≤ 1000000000000 := by first | decide | (simp; omega) | omega
   have hl3 : b + 1 ≤ (wc.alloc (.cells #[.int .i64 x.b] 3)).heap.size := by rw [World.size_alloc]; have := HP.out.2.2; omega
   clear hO hEn
   go_wp2_with (at_builtin; refine wp_appendE (E := elI1) sInt1 rfl rfl _ _ rfl (v := .slice a1 (usA x).length c1) (l := (usA x)) (base := b + 1) rfl wc.heap.size rfl HO.out.1 x.b (cells_new (W := wc) (cs := [.int .i64 x.b]) (t := 3) rfl) hl1 hl2 hl3 ?_; intro v' w3 hown hgr hat; obtain ⟨s9, c9, rfl⟩ := hown.shape (n := (usA x).length + 1) (by simp); have hE3 := HO.out.2.grown1 hgr (fun q e => by have h1 := (OwnE.lt HO.out.1 q e).1; have h2 := HZ.out.2.2; omega); have hz3 := Nat.le_trans hl3 hgr.size; have H3 := Lib.hid (And.intro hown (And.intro hE3 hz3)); clear hown hgr hat hE3 hz3)
   go_meet
   case rel => exact ⟨s9, c9, by rw [HL.out]; simp, by rw [HL.out, List.length_append, List.length_singleton]; exact H3.out⟩
 case rest =>
 obtain ⟨a2, c2, rfl, h1, h2⟩ := hcut
 have HP0 := Lib.hid (And.intro h1 h2)
 have d0 := h2.1.cell 0 rfl 0 rfl
 have HL2 := Lib.hid (show (usA x ++ usB x).length ≤ 2 by rw [List.length_append]; have := HL1.out; unfold usB; split <;> simp <;> omega)
 clear h1 h2 HQB HP HL1
 obtain ⟨l2, hl2⟩ : ∃ l, l = usA x ++ usB x := ⟨_, rfl⟩
 rw [← hl2] at HP0 HL2 ⊢
 have HLL := Lib.hid hl2
 clear hl2
 go_wp2_with fail
 refine (rHas_any x.op 108 _).mono ?_
 rintro e W4 ⟨rfl, b4⟩
 obtain ⟨qc, hqc⟩ : ∃ q, q = hasB x.op 108 := ⟨_, rfl⟩
 rw [← hqc]
 have HQC := Lib.hid hqc
 have HP := Lib.hid (And.intro (OwnE.grown HP0.out.1 (grownBy_below b4) (by cases (Value.slice a2 l2.length c2).ownBlock <;> simp)) (And.intro (HP0.out.2.1.below b4) (Nat.le_trans HP0.out.2.2 b4.size)))
 clear hqc b4 d0 HP0
 have HIN := Lib.hid (show ∀ y ∈ usL x, inI y from fun y hy => by
  unfold usL at hy
  rcases List.mem_append.1 hy with hy | hy
  ·rcases List.mem_append.1 hy with hy | hy
   ·unfold usA at hy
    split at hy
    ·rw [List.mem_singleton.1 hy]; exact HC.out.2.1
    ·cases hy
   ·unfold usB at hy
    split at hy
    ·rw [List.mem_singleton.1 hy]; exact HC.out.2.2.1
    ·cases hy
  ·unfold usC at hy
   split at hy
   ·exact InS.inI_all HC.out.1 y hy
   ·cases hy)
 cases qc
 ·have HL := Lib.hid (show usL x = l2 by unfold usL usC; rw [← HQC.out, ← HLL.out]; simp)
  go_wp2_with fail
  go_ret
  exact ⟨a2, c2, by rw [HL.out]; rfl, by rw [HL.out]; exact own_inI HP.out.1 (by rw [← HL.out]; exact HIN.out), HP.out.2.1.bel⟩
 ·have HL := Lib.hid (show usL x = l2 ++ x.ar by unfold usL usC; rw [← HQC.out, ← HLL.out]; rfl)
  have e7 := HP.out.2.1.cell 0 rfl 7 rfl
  have hsrc := InS.srcI HC.out.1 HP.out.2.1.bel
  have hm1 : (l2.length + x.ar.length) * 8 ≤ 140737488355328 := by have := HL2.out; have := HC.out.2.2.2; omega
  have hm2 : l2.length + x.ar.length ≤ 1000000000000 := by have := HL2.out; have := HC.out.2.2.2; omega
  have hm3 : b + 1 ≤ W4.heap.size := HP.out.2.2
  have HS := Lib.hid hsrc
  clear hsrc
  go_wp2_with (at_builtin; refine wp_appendSE (E := elI1) (v := .slice a2 l2.length c2) (l := l2) (m := x.ar) (base := b + 1) sInt1 rfl rfl _ _ rfl rfl (by rw [← HAN.out]; rfl) HP.out.1 HS.out hm1 hm2 hm3 ?_; intro v' w3 hown hgr hat; obtain ⟨s9, c9, rfl⟩ := hown.shape (n := l2.length + x.ar.length) (by simp); have hE3 := HP.out.2.1.grown1 hgr (fun q e => by have h1 := (OwnE.lt HP.out.1 q e).1; have h2 := HZ.out.2.2; omega); have H3 := Lib.hid (And.intro hown hE3); clear hown hgr hat hE3)
  go_ret
  exact ⟨s9, c9, by rw [HL.out]; simp, by rw [HL.out, List.length_append]; exact own_inI H3.out.1 (by rw [← HL.out]; exact HIN.out), H3.out.2.bel⟩
set_option maxHeartbeats 1600000 in
theorem rIsClass_any (cs : List Cl) (hv : Value) (t : ByteArray) (W : World) (h : InS vCl W hv cs) : Calls Tryz.prog 138 #[.agg #[hv], .string t] W fun e W' => e = .returned (.bool (decide (isC cs t))) ∧ Below W.heap.size W W' := by
 obtain ⟨ha, hc, rfl⟩ := h.shape
 have HE := Lib.hid (And.intro ((Env.refl W).alloc [.slice ha cs.length hc] 24) h)
 clear h
 go_enter Tryz.func138, Tryz.ntmps138
 go_wp2_with fail
 refine (rFind_any cs _ t _ (HE.out.2.below HE.out.1.bel)).mono ?_
 rintro e W1 ⟨rfl, b1⟩
 have H1 := Lib.hid (HE.out.1.below b1).bel
 obtain ⟨y, hy⟩ : ∃ y, y = fI cs t := ⟨_, rfl⟩
 rw [← hy]
 have HY := Lib.hid hy
 clear b1 hy
 by_cases h0 : 0 ≤ y
 ·have hd : decide (isC cs t) = true := decide_eq_true (fI_nonneg.1 (by rw [← HY.out]; exact h0))
  have HD := Lib.hid hd
  clear hd
  go_wp2_with fail
  go_ret
  exact ⟨by rw [HD.out]; rfl, H1.out⟩
 ·have hd0 : decide (0 ≤ y) = false := decide_eq_false h0
  have hd : decide (isC cs t) = false := decide_eq_false fun h => h0 (by rw [HY.out]; exact fI_nonneg.2 h)
  have HD := Lib.hid hd
  clear hd
  go_wp2_with fail
  go_ret
  exact ⟨by rw [HD.out]; rfl, H1.out⟩
instance (cs : List Cl) (f t : ByteArray) : Decidable (Fits cs f t) := by unfold Fits; infer_instance
end Go.Proofs.YtnklnklkblgnfaaGreatDoor
end
section
namespace Go.Proofs.YtnklnklkblgnfaaGreatDoor
open Go.RowKit Go.Dfl Go.Obs Go.Hir
open Go.Gra (gen_code gen_calls)
def fitsB (cs : List Cl) (f t : ByteArray) : Bool := if f = t then true else if f = tN then decide (t ≠ tI) else decide (isC cs f) && (decide (isC cs t) && decide (t ∈ sups cs f))
theorem fitsB_ok {cs : List Cl} {f t : ByteArray} (h : fitsB cs f t = true) : Hir.Fits cs f t := by
 unfold fitsB at h
 by_cases h1 : f = t
 ·exact .inl h1
 ·rw [if_neg h1] at h
  by_cases h2 : f = tN
  ·rw [if_pos h2] at h
   exact .inr (.inl ⟨h2, of_decide_eq_true h⟩)
  ·rw [if_neg h2] at h
   simp at h
   exact .inr (.inr h)
set_option maxHeartbeats 3200000 in
theorem rFits_any (cs : List Cl) (hv : Value) (f t : ByteArray) (W : World) (h : InS vCl W hv cs) (hl : cs.length ≤ 1000000) : Calls Tryz.prog 139 #[.agg #[hv], .string f, .string t] W fun e W' => e = .returned (.bool (fitsB cs f t)) ∧ Below W.heap.size W W' := by
 obtain ⟨ha, hc, rfl⟩ := h.shape
 have HE := Lib.hid (And.intro ((Env.refl W).alloc [.slice ha cs.length hc] 24) h)
 clear h
 by_cases h1 : f = t
 ·have t0 := tl_eq h1
  have HT := Lib.hid (show fitsB cs f t = true by unfold fitsB; rw [if_pos h1])
  clear h1
  go_enter Tryz.func139, Tryz.ntmps139
  go_wp2_with fail
  go_ret
  exact ⟨by rw [HT.out]; rfl, HE.out.1.bel⟩
 ·have t0 := tl_ne h1
  have HN := Lib.hid h1
  clear h1
  by_cases h2 : f = tN
  ·have t1 : (f.toList == [110, 117, 108, 108]) = true := tl_lit h2
   by_cases h3 : t = tI
   ·have t2 : (t.toList == [105, 110, 116]) = true := tl_lit h3
    have t3 : (t.toList != [105, 110, 116]) = false := by rw [bne, t2]; rfl
    have HT := Lib.hid (show fitsB cs f t = false by unfold fitsB; rw [if_neg HN.out, if_pos h2, h3]; rfl)
    clear h2 h3
    go_enter Tryz.func139, Tryz.ntmps139
    go_wp2_with fail
    go_ret
    exact ⟨by rw [HT.out]; rfl, HE.out.1.bel⟩
   ·have t2 : (t.toList == [105, 110, 116]) = false := tl_litn h3
    have t3 : (t.toList != [105, 110, 116]) = true := by rw [bne, t2]; rfl
    have HT := Lib.hid (show fitsB cs f t = true by unfold fitsB; rw [if_neg HN.out, if_pos h2, decide_eq_true h3])
    clear h2 h3
    go_enter Tryz.func139, Tryz.ntmps139
    go_wp2_with fail
    go_ret
    exact ⟨by rw [HT.out]; rfl, HE.out.1.bel⟩
  ·have t1 : (f.toList == [110, 117, 108, 108]) = false := tl_litn h2
   have HV := Lib.hid (show fitsB cs f t = (decide (isC cs f) && (decide (isC cs t) && decide (t ∈ sups cs f))) by unfold fitsB; rw [if_neg HN.out, if_neg h2])
   clear h2
   go_enter Tryz.func139, Tryz.ntmps139
   go_wp2_with fail
   refine (rIsClass_any cs _ f _ (HE.out.2.below HE.out.1.bel)).mono ?_
   rintro e W1 ⟨rfl, b1⟩
   have H1 := Lib.hid (HE.out.1.below b1)
   clear b1
   by_cases hf : isC cs f
   ·rw [decide_eq_true hf]
    have d0 := H1.out.cell 0 rfl 0 rfl
    have HF := Lib.hid hf
    clear hf
    go_wp2_with fail
    refine (rIsClass_any cs _ t _ (HE.out.2.below H1.out.bel)).mono ?_
    rintro e W2 ⟨rfl, b2⟩
    have H2 := Lib.hid (H1.out.below b2)
    clear b2 d0
    by_cases ht : isC cs t
    ·rw [decide_eq_true ht]
     have d0 := H2.out.cell 0 rfl 0 rfl
     have HT := Lib.hid ht
     clear ht
     go_wp2_with fail
     refine (rIsSub_any cs _ f t _ (HE.out.2.below H2.out.bel) hl).mono ?_
     rintro e W3 ⟨rfl, b3⟩
     have H3 := Lib.hid (H2.out.below b3).bel
     clear b3 d0
     by_cases hs : t ∈ sups cs f
     ·rw [decide_eq_true hs]
      have HS := Lib.hid (show fitsB cs f t = true by rw [HV.out, decide_eq_true HF.out, decide_eq_true HT.out, decide_eq_true hs]; rfl)
      clear hs
      go_wp2_with fail
      go_ret
      exact ⟨by rw [HS.out]; rfl, H3.out⟩
     ·rw [decide_eq_false hs]
      have HS := Lib.hid (show fitsB cs f t = false by rw [HV.out, decide_eq_true HF.out, decide_eq_true HT.out, decide_eq_false hs]; rfl)
      clear hs
      go_wp2_with fail
      go_ret
      exact ⟨by rw [HS.out]; rfl, H3.out⟩
    ·rw [decide_eq_false ht]
     have HS := Lib.hid (show fitsB cs f t = false by rw [HV.out, decide_eq_true HF.out, decide_eq_false ht]; rfl)
     clear ht
     go_wp2_with fail
     go_ret
     exact ⟨by rw [HS.out]; rfl, H2.out.bel⟩
   ·rw [decide_eq_false hf]
    have HS := Lib.hid (show fitsB cs f t = false by rw [HV.out, decide_eq_false hf]; rfl)
    clear hf
    go_wp2_with fail
    go_ret
    exact ⟨by rw [HS.out]; rfl, H1.out.bel⟩
set_option maxHeartbeats 3200000 in
theorem rFu_any (fs : List Fu) (hv fv : Value) (n : Int) (c m : ByteArray) (W : World) (h : InS vFu W fv fs) : Calls Tryz.prog 68 #[.agg #[hv, fv, .int .i64 n], .string c, .string m] W fun e W' => e = .returned (.int .i64 (fuI fs c m)) ∧ Below W.heap.size W W' := by
 obtain ⟨fa, fc, rfl, hlen, hidx, hcell⟩ := InS.fu h
 obtain ⟨N, hN⟩ : ∃ N, N = fs.length := ⟨_, rfl⟩
 rw [← hN] at hlen hidx hcell ⊢
 have HC := Lib.hid (And.intro hidx (And.intro hcell hN))
 have hNl := hlen
 clear h hidx hcell hN
 obtain ⟨k1, hk1⟩ : ∃ k, k = fuI fs c m := ⟨_, rfl⟩
 rw [← hk1]
 have HK := Lib.hid hk1
 have HE := Lib.hid ((Env.refl W).alloc [hv, .slice fa N fc, .int .i64 n] 27)
 clear hk1
 go_enter Tryz.func68, Tryz.ntmps68
 go_upto_region 1 with fail
 refine gen_code (fun Z => Env W [fkC W.heap.size [hv, .slice fa N fc, .int .i64 n]] Z) HE.out ?_
 intro Z hZ
 obtain ⟨b, hb⟩ : ∃ b, b = W.heap.size := ⟨_, rfl⟩
 rw [← hb] at hZ ⊢
 have HZ := Lib.hid hZ.bel
 have d1 := hZ.cell 0 rfl 1 rfl
 clear hZ hb HE
 go_wp2_with fail
 go_loop [7] (fun x => ∃ j : Nat, j ≤ N ∧ x = .int .i64 (j : Int) ∧ Hid (∀ q, q < j → ¬ ((nth fs q).c = c ∧ (nth fs q).m = m))) (fun x => N - (intOf x).toNat)
 case atStart => exact ⟨0, by omega, rfl, fun q hq => by omega⟩
 case round =>
  obtain ⟨j, hj, rfl, hh⟩ := hrel
  by_cases hlt : j < N
  ·have hji : (j : Int) < (N : Int) := by omega
   obtain ⟨-, v4, v6, -, hz⟩ := HC.out.2.1 j hlt
   obtain ⟨p0, p1, -⟩ := hz Z HZ.out
   have j1 := HC.out.1 (j : Int) (by omega) (by omega)
   rw [Int.toNat_natCast] at j1
   clear hz
   obtain ⟨fc2, hfc⟩ : ∃ y, y = (nth fs j).c := ⟨_, rfl⟩
   obtain ⟨fm, hfm⟩ : ∃ y, y = (nth fs j).m := ⟨_, rfl⟩
   rw [← hfc] at p0
   rw [← hfm] at p1
   have HF := Lib.hid (And.intro hfc hfm)
   clear hfc hfm
   have hnext : Hid (¬ (fc2 = c ∧ fm = m) → ∀ q, q < j + 1 → ¬ ((nth fs q).c = c ∧ (nth fs q).m = m)) := Lib.hid fun h q hq => by
    by_cases e : q = j
    ·rw [e, ← HF.out.1, ← HF.out.2]; exact h
    ·exact hh.out q (by omega)
   by_cases h1 : fc2 = c
   ·have t0 := tl_eq h1
    by_cases h2 : fm = m
    ·have t1 := tl_eq h2
     have HT := Lib.hid (show k1 = (j : Int) by
      rw [HK.out]
      have := fu_eq (fs := fs) (c := c) (m := m) (i := j) (by have := HC.out.2.2; omega) ⟨by rw [← HF.out.1]; exact h1, by rw [← HF.out.2]; exact h2⟩ hh.out
      unfold fuI
      rw [this, if_pos (by have := HC.out.2.2; omega)])
     clear h1 h2
     go_wp2_with fail
     go_ret
     exact ⟨by rw [HT.out]; rfl, HZ.out⟩
    ·have t1 := tl_ne h2
     have HT := Lib.hid (hnext.out fun h => h2 h.2)
     clear h1 h2
     go_wp2_with fail
     go_round
     case rel => exact ⟨j + 1, by omega, by go_num, HT.out⟩
     case measure => simp [intOf]; omega
   ·have t0 := tl_ne h1
    have HT := Lib.hid (hnext.out fun h => h1 h.1)
    clear h1
    go_wp2_with fail
    go_round
    case rel => exact ⟨j + 1, by omega, by go_num, HT.out⟩
    case measure => simp [intOf]; omega
  ·obtain rfl : j = N := by omega
   have HT := Lib.hid (show k1 = -1 by
    rw [HK.out]
    have := fu_none (fs := fs) (c := c) (m := m) (by rw [← HC.out.2.2]; exact hh.out)
    unfold fuI
    rw [if_neg (by omega)])
   clear hlt hj
   go_wp2_with fail
   go_ret
   exact ⟨by rw [HT.out]; rfl, HZ.out⟩
end Go.Proofs.YtnklnklkblgnfaaGreatDoor
end
section
namespace Go.Proofs.YtnklnklkblgnfaaGreatDoor
open Go.RowKit Go.Dfl Go.Obs Go.Hir
open Go.Gra (gen_code gen_calls)
abbrev fuV (f : Fu) (vv cv : Value) : Value := .agg #[.string f.c, .string f.m, .bool f.st, .int .i64 f.ps, vv, .string f.r, cv]
abbrev fuC (f : Fu) (vv cv : Value) : List Value := [.string f.c, .string f.m, .bool f.st, .int .i64 f.ps, vv, .string f.r, cv]
def RangesR (f : Fu) (x : Is) (W : World) (e : Ending) (W' : World) : Prop := ∃ b : Bool, e = .returned (.bool b) ∧ (b = true → Rng f x) ∧ Below W.heap.size W W'
def outD (n : Nat) (x : Is) : Bool := hasB x.op 100 && (decide (x.d < 0) || decide ((n : Int) ≤ x.d)) && (!(x.op == 9 || x.op == 10) || x.d != -1)
def outG (n : Nat) (x : Is) : Bool := hasB x.op 103 && (decide (x.g < 0) || decide ((n : Int) ≤ x.g))
theorem rng_of {f : Fu} {x : Is} (h1 : outD f.vs.length x = false) (h2 : outG f.cd.length x = false) (h3 : ∀ y ∈ usL x, 0 ≤ y ∧ y < f.vs.length) (h4 : x.ct = -1 ∨ (0 ≤ x.ct ∧ x.ct < f.cd.length ∧ (nth f.cd x.ct.toNat).op = 15)) : Rng f x where
 d h := by
  unfold outD at h1
  rw [h] at h1
  by_cases hr : 0 ≤ x.d ∧ x.d < f.vs.length
  ·exact .inl hr
  ·have hrb : (decide (x.d < 0) || decide ((f.vs.length : Int) ≤ x.d)) = true := by simp; omega
   rw [hrb] at h1
   simp at h1
   refine .inr ⟨?_, h1.2⟩
   by_cases h9 : x.op = 9
   ·exact .inl h9
   ·exact .inr (by simpa [h9] using h1.1)
 a h := by
  by_cases hc : cA x = true
  ·exact .inl (h3 _ (by unfold usL usA; rw [if_pos hc]; simp))
  ·unfold cA at hc
   rw [h] at hc
   simp at hc
   exact .inr hc
 b h := h3 _ (by unfold usL usB; rw [if_pos h]; simp)
 l h y hy := h3 _ (by unfold usL usC; rw [if_pos h]; simp [hy])
 g h := by
  unfold outG at h2
  rw [h] at h2
  simp at h2
  exact h2
 ct := h4
set_option maxHeartbeats 6400000 in
set_option maxRecDepth 8000 in
theorem rRanges_any (f : Fu) (vv cv : Value) (x : Is) (v : Value) (W : World) (hvv : InS vVd W vv f.vs) (hcv : InS vIs W cv f.cd) (h : InS vI W v x.ar) (hl : x.ar.length ≤ 1048576) (ha : inI x.a) (hb : inI x.b) :
  Calls Tryz.prog 113 #[fuV f vv cv, isV x v] W (RangesR f x W) := by
 obtain ⟨va, vc, rfl, hvl⟩ := InS.vd hvv
 obtain ⟨ca, cc, rfl, hcl, cidx, ccell⟩ := InS.is hcv
 obtain ⟨xa, xc, rfl⟩ := h.shape
 obtain ⟨n, hn⟩ : ∃ n, n = f.vs.length := ⟨_, rfl⟩
 obtain ⟨m, hm⟩ : ∃ n, n = f.cd.length := ⟨_, rfl⟩
 obtain ⟨k, hk⟩ : ∃ n, n = x.ar.length := ⟨_, rfl⟩
 rw [← hm] at cidx ccell hcl
 rw [← hk] at h
 rw [← hn, ← hm, ← hk]
 have HE := Lib.hid (((Env.refl W).alloc (fuC f (.slice va n vc) (.slice ca m cc)) 95).alloc (isC' x (.slice xa k xc)) 79)
 have HC := Lib.hid (And.intro (And.intro cidx ccell) (And.intro (And.intro h (And.intro hl (And.intro ha hb))) (And.intro hn (And.intro hm hk))))
 clear h hvl hcl cidx ccell hvv hcv hl ha hb hn hm hk
 unfold fuV isV
 go_enter Tryz.func113, Tryz.ntmps113
 go_upto_region 1 with fail
 refine gen_code (fun Z => Env W [fkC (W.heap.size + 1) (isC' x (.slice xa k xc)), fkC W.heap.size (fuC f (.slice va n vc) (.slice ca m cc))] Z) (by have h := HE.out; rw [World.size_alloc] at h; exact h) ?_
 intro Z hZ
 obtain ⟨b, hb⟩ : ∃ b, b = W.heap.size := ⟨_, rfl⟩
 obtain ⟨bx, hbx⟩ : ∃ b, b = W.heap.size + 1 := ⟨_, rfl⟩
 rw [← hbx, ← hb] at hZ ⊢
 have HZ := Lib.hid hZ
 have d4 := hZ.cell 1 rfl 4 rfl
 have e0 := hZ.cell 0 rfl 0 rfl
 clear hZ hb hbx HE
 go_upto_region 2 with fail
 obtain ⟨cb, hcb⟩ : ∃ q, q = (x.op == 9 || x.op == 10) := ⟨_, rfl⟩
 have HCB := Lib.hid hcb
 clear hcb
 go_cut [6] (fun q wx => q = .bool cb ∧ wx = Z)
 case first =>
  by_cases h9 : x.op = 9
  ·have t9 : (x.op == 9) = true := by simp [h9]
   have HT := Lib.hid (show cb = true by rw [HCB.out, t9]; rfl)
   clear h9
   go_wp2_with fail
   go_meet
   case rel => exact ⟨by rw [HT.out], rfl⟩
  ·have t9 : (x.op == 9) = false := by simpa using h9
   by_cases h10 : x.op = 10
   ·have t10 : (x.op == 10) = true := by simp [h10]
    have HT := Lib.hid (show cb = true by rw [HCB.out, t9, t10]; rfl)
    clear h9 h10
    go_wp2_with fail
    go_meet
    case rel => exact ⟨by rw [HT.out], rfl⟩
   ·have t10 : (x.op == 10) = false := by simpa using h10
    have HT := Lib.hid (show cb = false by rw [HCB.out, t9, t10]; rfl)
    clear h9 h10
    go_wp2_with fail
    go_meet
    case rel => exact ⟨by rw [HT.out], rfl⟩
 case rest =>
 obtain ⟨rfl, rfl⟩ := hcut
 go_upto_region 3 with fail
 clear d4 e0
 obtain ⟨cd, hcd⟩ : ∃ q, q = outD n x := ⟨_, rfl⟩
 have HCD := Lib.hid hcd
 clear hcd
 go_cut [42] (fun q wx => q = .bool cd ∧ Env W [fkC bx (isC' x (.slice xa k xc)), fkC b (fuC f (.slice va n vc) (.slice ca m cc))] wx)
 case first =>
  have e0 := HZ.out.cell 0 rfl 0 rfl
  go_wp2_with fail
  refine (rHas_any x.op 100 _).mono ?_
  rintro e W1 ⟨rfl, b1⟩
  have H1 := Lib.hid (HZ.out.below b1)
  obtain ⟨hb, hhb⟩ : ∃ q, q = hasB x.op 100 := ⟨_, rfl⟩
  rw [← hhb]
  have HB := Lib.hid hhb
  have e1 := H1.out.cell 0 rfl 1 rfl
  clear b1 e0 hhb
  cases hb
  ·have HT := Lib.hid (show cd = false by rw [HCD.out]; unfold outD; rw [← HB.out]; rfl)
   go_wp2_with fail
   go_meet
   case rel => exact ⟨by rw [HT.out], H1.out⟩
  ·by_cases hr : 0 ≤ x.d ∧ x.d < n
   ·have r1 : ¬ x.d < 0 := by omega
    have r2 : ¬ (n : Int) ≤ x.d := by omega
    have r3 : x.d < n := hr.2
    have HT := Lib.hid (show cd = false by rw [HCD.out]; unfold outD; simp [r1, r2]; try omega)
    clear hr
    go_wp2_with fail
    go_meet
    case rel => exact ⟨by rw [HT.out], H1.out⟩
   ·have hrb : (decide (x.d < 0) || decide ((n : Int) ≤ x.d)) = true := by simp; omega
    have HR := Lib.hid (show cd = (!cb || x.d != -1) by rw [HCD.out]; unfold outD; rw [← HB.out, ← HCB.out, hrb]; rfl)
    have hcase : x.d < 0 ∨ (¬ x.d < 0 ∧ (n : Int) ≤ x.d ∧ ¬ x.d < n) := by omega
    clear hrb hr
    rcases hcase with r1 | ⟨r1, r2, r3⟩ <;> cases cb
    ·have HT := Lib.hid (show cd = true by rw [HR.out]; rfl)
     go_wp2_with fail
     go_meet
     case rel => exact ⟨by rw [HT.out], H1.out⟩
    ·by_cases hm1 : x.d = -1
     ·have t1 : (x.d != -1) = false := by simp [hm1]
      have t2 : (x.d == -1) = true := by simp [hm1]
      have HT := Lib.hid (show cd = false by rw [HR.out, t1]; rfl)
      clear hm1
      go_wp2_with fail
      go_meet
      case rel => exact ⟨by rw [HT.out], H1.out⟩
     ·have t1 : (x.d != -1) = true := by simpa using hm1
      have t2 : (x.d == -1) = false := by simpa using hm1
      have HT := Lib.hid (show cd = true by rw [HR.out, t1]; rfl)
      clear hm1
      go_wp2_with fail
      go_meet
      case rel => exact ⟨by rw [HT.out], H1.out⟩
    ·have HT := Lib.hid (show cd = true by rw [HR.out]; rfl)
     go_wp2_with fail
     go_meet
     case rel => exact ⟨by rw [HT.out], H1.out⟩
    ·have t1 : (x.d != -1) = true := by simp; omega
     have t2 : (x.d == -1) = false := by simp; omega
     have HT := Lib.hid (show cd = true by rw [HR.out, t1]; rfl)
     go_wp2_with fail
     go_meet
     case rel => exact ⟨by rw [HT.out], H1.out⟩
 case rest =>
 obtain ⟨rfl, hE⟩ := hcut
 have H1 := Lib.hid hE
 clear hE
 cases cd
 rotate_left
 ·go_wp2_with fail
  go_ret
  exact ⟨false, rfl, (fun h => by cases h), H1.out.bel⟩
 have f0 := H1.out.cell 0 rfl 0 rfl
 have f1 := H1.out.cell 0 rfl 1 rfl
 have f2 := H1.out.cell 0 rfl 2 rfl
 have f3 := H1.out.cell 0 rfl 3 rfl
 have f4 := H1.out.cell 0 rfl 4 rfl
 have f5 := H1.out.cell 0 rfl 5 rfl
 have f6 := H1.out.cell 0 rfl 6 rfl
 have f7 := H1.out.cell 0 rfl 7 rfl
 have f8 := H1.out.cell 0 rfl 8 rfl
 have f9 := H1.out.cell 0 rfl 9 rfl
 go_wp2_with fail
 refine (rUses_any x _ _ (HC.out.2.1.1.below H1.out.bel) HC.out.2.1.2.1 HC.out.2.1.2.2.1 HC.out.2.1.2.2.2).mono ?_
 rintro e W2 ⟨la, lc, rfl, h2, b2⟩
 obtain ⟨l, hl⟩ : ∃ l, l = usL x := ⟨_, rfl⟩
 rw [← hl] at h2 ⊢
 obtain ⟨_, _, hsh, hll, lidx, lcell⟩ := InS.ints1 h2
 injection hsh with hsh1 hsh2 hsh3
 subst hsh1 hsh3
 obtain ⟨N, hN⟩ : ∃ N, N = l.length := ⟨_, rfl⟩
 rw [← hN] at lidx lcell hll ⊢
 have H2 := Lib.hid (H1.out.below b2)
 have HL := Lib.hid (And.intro hl (And.intro hN (And.intro lidx lcell)))
 clear hl h2 hsh2 lidx lcell b2 f0 f1 f2 f3 f4 f5 f6 f7 f8 f9 hN
 go_wp2_with fail
 go_loop [8] (fun y => ∃ j : Nat, j ≤ N ∧ y = .int .i64 (j : Int) ∧ Hid (∀ q, q < j → 0 ≤ nth l q ∧ nth l q < n)) (fun y => N - (intOf y).toNat)
 case atStart => exact ⟨0, by omega, rfl, fun q hq => by omega⟩
 case round =>
  obtain ⟨j, hj, rfl, hh⟩ := hrel
  by_cases hlt : j < N
  ·have hji : (j : Int) < (N : Int) := by omega
   obtain ⟨-, -, hz⟩ := HL.out.2.2.2 j hlt
   have p0 := hz W2 (Below.refl _ _)
   have j1 := HL.out.2.2.1 (j : Int) (by omega) (by omega)
   rw [Int.toNat_natCast] at j1
   obtain ⟨y, hy⟩ : ∃ y, y = nth l j := ⟨_, rfl⟩
   rw [← hy] at p0
   have HY := Lib.hid hy
   clear hz hy
   by_cases r1 : y < 0
   ·go_wp2_with fail
    go_ret
    exact ⟨false, rfl, (fun h => by cases h), H2.out.bel⟩
   ·by_cases r2 : (n : Int) ≤ y
    ·have r3 : ¬ y < n := by omega
     go_wp2_with fail
     go_ret
     exact ⟨false, rfl, (fun h => by cases h), H2.out.bel⟩
    ·have r3 : y < n := by omega
     have HN := Lib.hid (show ∀ q, q < j + 1 → 0 ≤ nth l q ∧ nth l q < n from fun q hq => by
      by_cases e2 : q = j
      ·rw [e2, ← HY.out]; omega
      ·exact hh.out q (by omega))
     go_wp2_with fail
     go_round
     case rel => exact ⟨j + 1, by omega, by go_num, HN.out⟩
     case measure => simp [intOf]; omega
  ·obtain rfl : j = N := by omega
   have HA := Lib.hid (show ∀ y ∈ usL x, 0 ≤ y ∧ y < n from fun y hy => by
    rw [← HL.out.1] at hy
    obtain ⟨q, hq, rfl⟩ := mem_nth hy
    exact hh.out q (by rw [HL.out.2.1]; exact hq))
   clear hlt hj hh
   go_upto_region 11 with fail
   obtain ⟨cg, hcg⟩ : ∃ q, q = outG m x := ⟨_, rfl⟩
   have HCG := Lib.hid hcg
   clear hcg
   go_cut [79] (fun q wx => q = .bool cg ∧ Env W [fkC bx (isC' x (.slice xa k xc)), fkC b (fuC f (.slice va n vc) (.slice ca m cc))] wx)
   case first =>
    have e0 := H2.out.cell 0 rfl 0 rfl
    go_wp2_with fail
    refine (rHas_any x.op 103 _).mono ?_
    rintro e W3 ⟨rfl, b3⟩
    have H3 := Lib.hid (H2.out.below b3)
    obtain ⟨hb, hhb⟩ : ∃ q, q = hasB x.op 103 := ⟨_, rfl⟩
    rw [← hhb]
    have HB := Lib.hid hhb
    have e8 := H3.out.cell 0 rfl 8 rfl
    have d6 := H3.out.cell 1 rfl 6 rfl
    clear b3 e0 hhb
    cases hb
    ·have HT := Lib.hid (show cg = false by rw [HCG.out]; unfold outG; rw [← HB.out]; rfl)
     go_wp2_with fail
     go_meet
     case rel => exact ⟨by rw [HT.out], H3.out⟩
    ·by_cases r1 : x.g < 0
     ·have HT := Lib.hid (show cg = true by rw [HCG.out]; unfold outG; rw [← HB.out, decide_eq_true r1]; rfl)
      go_wp2_with fail
      go_meet
      case rel => exact ⟨by rw [HT.out], H3.out⟩
     ·by_cases r2 : (m : Int) ≤ x.g
      ·have r3 : ¬ x.g < m := by omega
       have HT := Lib.hid (show cg = true by rw [HCG.out]; unfold outG; rw [← HB.out, decide_eq_true r2]; simp)
       go_wp2_with fail
       go_meet
       case rel => exact ⟨by rw [HT.out], H3.out⟩
      ·have r3 : x.g < m := by omega
       have HT := Lib.hid (show cg = false by rw [HCG.out]; unfold outG; rw [← HB.out, decide_eq_false r1, decide_eq_false r2]; rfl)
       go_wp2_with fail
       go_meet
       case rel => exact ⟨by rw [HT.out, decide_eq_false (show ¬ x.g < 0 by omega), decide_eq_false (show ¬ (m : Int) ≤ x.g by omega)]; rfl, H3.out⟩
   case rest =>
   obtain ⟨rfl, hE⟩ := hcut
   have H3 := Lib.hid hE
   clear hE
   cases cg
   rotate_left
   ·go_wp2_with fail
    go_ret
    exact ⟨false, rfl, (fun h => by cases h), H3.out.bel⟩
   have HR := Lib.hid (show (x.ct = -1 ∨ (0 ≤ x.ct ∧ x.ct < f.cd.length ∧ (nth f.cd x.ct.toNat).op = 15)) → Rng f x from fun hct => rng_of (by rw [← HC.out.2.2.1]; exact HCD.out.symm) (by rw [← HC.out.2.2.2.1]; exact HCG.out.symm) (by rw [← HC.out.2.2.1]; exact HA.out) hct)
   have e9 := H3.out.cell 0 rfl 9 rfl
   have d6 := H3.out.cell 1 rfl 6 rfl
   by_cases c1 : x.ct = -1
   ·have t1 : (x.ct == -1) = true := by simp [c1]
    have HT := Lib.hid (HR.out (.inl c1))
    clear c1
    go_wp2_with fail
    go_ret
    exact ⟨true, rfl, fun _ => HT.out, H3.out.bel⟩
   ·have t1 : (x.ct == -1) = false := by simpa using c1
    clear c1
    by_cases c2 : 0 ≤ x.ct
    ·have c2n : ¬ x.ct < 0 := by omega
     by_cases c3 : x.ct < m
     ·have c3n : ¬ (m : Int) ≤ x.ct := by omega
      have j1 := HC.out.1.1 x.ct c2 c3
      obtain ⟨-, v7, -, hz⟩ := HC.out.1.2 x.ct.toNat (by omega)
      obtain ⟨p0, -⟩ := hz _ H3.out.bel
      clear hz
      obtain ⟨y, hy⟩ : ∃ y, y = (nth f.cd x.ct.toNat).op := ⟨_, rfl⟩
      rw [← hy] at p0
      by_cases c4 : y = 15
      ·have t2 : (y == 15) = true := by simp [c4]
       have HT := Lib.hid (HR.out (.inr ⟨c2, by rw [← HC.out.2.2.2.1]; exact c3, by rw [← hy]; exact c4⟩))
       clear c4 hy
       go_wp2_with fail
       go_ret
       exact ⟨true, rfl, fun _ => HT.out, H3.out.bel⟩
      ·have t2 : (y == 15) = false := by simpa using c4
       clear c4 hy
       go_wp2_with fail
       go_ret
       exact ⟨false, rfl, (fun h => by cases h), H3.out.bel⟩
     ·have c3n : (m : Int) ≤ x.ct := by omega
      go_wp2_with fail
      go_ret
      exact ⟨false, rfl, (fun h => by cases h), H3.out.bel⟩
    ·have c2n : x.ct < 0 := by omega
     go_wp2_with fail
     go_ret
     exact ⟨false, rfl, (fun h => by cases h), H3.out.bel⟩
end Go.Proofs.YtnklnklkblgnfaaGreatDoor
end
section
namespace Go.Proofs.YtnklnklkblgnfaaGreatDoor
open Go.RowKit Go.Dfl Go.Obs Go.Hir
open Go.Gra (gen_code gen_calls)
def LeavesR (f : Fu) (i : Nat) (W : World) (e : Ending) (W' : World) : Prop := ∃ b : Bool, e = .returned (.bool b) ∧ (b = false → Stay f i (nth f.cd i)) ∧ Below W.heap.size W W'
def NX (f : Fu) (i : Nat) : Prop := (nth f.cd i).op ≠ 12 → (nth f.cd i).op ≠ 13 → (nth f.cd i).op ≠ 14 → i + 1 < f.cd.length ∧ (nth f.cd (i + 1)).op ≠ 15
set_option maxHeartbeats 6400000 in
set_option maxRecDepth 8000 in
theorem rLeaves_any (f : Fu) (vv cv : Value) (i : Nat) (W : World) (hvv : InS vVd W vv f.vs) (hcv : InS vIs W cv f.cd) (hi : i < f.cd.length) (hr : Rng f (nth f.cd i)) :
  Calls Tryz.prog 114 #[fuV f vv cv, .int .i64 (i : Int)] W (LeavesR f i W) := by
 obtain ⟨va, vc, rfl, hvl⟩ := InS.vd hvv
 obtain ⟨ca, cc, rfl, hcl, cidx, ccell⟩ := InS.is hcv
 obtain ⟨n, hn⟩ : ∃ n, n = f.vs.length := ⟨_, rfl⟩
 obtain ⟨m, hm⟩ : ∃ n, n = f.cd.length := ⟨_, rfl⟩
 rw [← hm] at cidx ccell hcl hi
 rw [← hn, ← hm]
 obtain ⟨-, v7, hin, hz⟩ := ccell i hi
 obtain ⟨x, hx⟩ : ∃ x, x = nth f.cd i := ⟨_, rfl⟩
 rw [← hx] at hr hz hin
 have HE := Lib.hid ((Env.refl W).alloc (fuC f (.slice va n vc) (.slice ca m cc)) 95)
 obtain ⟨xa, xc, hv7⟩ := hin.2.2.2.2.2.2.2.2.2.shape
 subst hv7
 obtain ⟨k, hk⟩ : ∃ n, n = x.ar.length := ⟨_, rfl⟩
 rw [← hk] at hz
 have HC := Lib.hid (And.intro (And.intro cidx ccell) (And.intro hz (And.intro hx (And.intro hr (And.intro hm hi)))))
 have j0 := cidx (i : Int) (by omega) (by omega)
 rw [Int.toNat_natCast] at j0
 have hcl2 := hcl
 clear hvl cidx ccell hvv hcv hn hm hk hz hx hr hin hcl
 unfold fuV
 go_enter Tryz.func114, Tryz.ntmps114
 go_upto_region 1 with fail
 refine gen_code (fun Z => Env W [fkC W.heap.size (fuC f (.slice va n vc) (.slice ca m cc))] Z) HE.out ?_
 intro Z hZ
 obtain ⟨b, hb⟩ : ∃ b, b = W.heap.size := ⟨_, rfl⟩
 rw [← hb] at hZ ⊢
 have HZ := Lib.hid hZ
 have d6 := hZ.cell 0 rfl 6 rfl
 obtain ⟨p0, p1, p2, p3, p4, p5, p6, p7, p8, p9⟩ := HC.out.2.1 Z hZ.bel
 clear hZ hb HE
 go_upto_region 2 with fail
 refine gen_code (fun Z' => Env W [fkC Z.heap.size (isC' x (.slice xa k xc)), fkC b (fuC f (.slice va n vc) (.slice ca m cc))] Z') (HZ.out.alloc (isC' x (.slice xa k xc)) 79) ?_
 intro Z2 hZ2
 obtain ⟨bx, hbx⟩ : ∃ b, b = Z.heap.size := ⟨_, rfl⟩
 rw [← hbx] at hZ2 ⊢
 have H2 := Lib.hid hZ2
 have e0 := hZ2.cell 0 rfl 0 rfl
 clear hZ2 hbx d6 p0 p1 p2 p3 p4 p5 p6 p7 p8 p9 HZ
 go_cut [6] (fun q wx => ∃ en : Bool, q = .bool en ∧ (en = true ↔ x.op = 12 ∨ x.op = 13 ∨ x.op = 14) ∧ wx = Z2)
 case first =>
  by_cases h12 : x.op = 12
  ·have t : (x.op == 12) = true := by simp [h12]
   have HT := Lib.hid h12
   clear h12
   go_wp2_with fail
   go_meet
   case rel => exact ⟨true, rfl, ⟨fun _ => .inl HT.out, fun _ => rfl⟩, rfl⟩
  ·have t : (x.op == 12) = false := by simpa using h12
   by_cases h13 : x.op = 13
   ·have t2 : (x.op == 13) = true := by simp [h13]
    have HT := Lib.hid h13
    clear h12 h13
    go_wp2_with fail
    go_meet
    case rel => exact ⟨true, rfl, ⟨fun _ => .inr (.inl HT.out), fun _ => rfl⟩, rfl⟩
   ·have t2 : (x.op == 13) = false := by simpa using h13
    by_cases h14 : x.op = 14
    ·have t3 : (x.op == 14) = true := by simp [h14]
     have HT := Lib.hid h14
     clear h12 h13 h14
     go_wp2_with fail
     go_meet
     case rel => exact ⟨true, rfl, ⟨fun _ => .inr (.inr HT.out), fun _ => rfl⟩, rfl⟩
    ·have t3 : (x.op == 14) = false := by simpa using h14
     have HT := Lib.hid (show ¬ (x.op = 12 ∨ x.op = 13 ∨ x.op = 14) by omega)
     clear h12 h13 h14
     go_wp2_with fail
     go_meet
     case rel => exact ⟨false, rfl, ⟨(fun h => by cases h), fun h => absurd h HT.out⟩, rfl⟩
 case rest =>
 obtain ⟨en, rfl, hen, rfl⟩ := hcut
 have HEN := Lib.hid hen
 clear hen e0
 go_upto_region 3 with fail
 go_cut [44] (fun q wx => ∃ lv : Bool, q = .bool lv ∧ (lv = false → NX f i) ∧ wx = wc)
 case first =>
  have d6 := H2.out.cell 1 rfl 6 rfl
  cases en
  rotate_left
  ·have HT := Lib.hid (show NX f i from fun h1 h2 h3 => by
    rw [← HC.out.2.2.1] at h1 h2 h3
    have := HEN.out.1 (by trivial)
    omega)
   go_wp2_with fail
   go_meet
   case rel => exact ⟨false, rfl, fun _ => HT.out, rfl⟩
  ·by_cases hl : i + 1 = m
   ·have hli : (i : Int) + 1 = (m : Int) := by omega
    have t1 : ((i : Int) + 1 == (m : Int)) = true := by simpa using hli
    clear hl hli
    go_wp2_with fail
    go_meet
    case rel => exact ⟨true, rfl, (fun h => by cases h), rfl⟩
   ·have hl2 : i + 1 < m := by omega
    have hli : ¬ (i : Int) + 1 = (m : Int) := by omega
    have t1 : ((i : Int) + 1 == (m : Int)) = false := by simpa using hli
    have j1 := HC.out.1.1 ((i : Int) + 1) (by omega) (by omega)
    rw [show ((i : Int) + 1).toNat = i + 1 by omega] at j1
    obtain ⟨-, w7, -, hz⟩ := HC.out.1.2 (i + 1) hl2
    obtain ⟨p0, -⟩ := hz _ H2.out.bel
    obtain ⟨y, hy⟩ : ∃ y, y = (nth f.cd (i + 1)).op := ⟨_, rfl⟩
    rw [← hy] at p0
    have HY := Lib.hid (And.intro hy hl2)
    clear hz hy hl hli hl2
    by_cases h15 : y = 15
    ·have t2 : (y == 15) = true := by simp [h15]
     clear h15
     go_wp2_with fail
     go_meet
     case rel => exact ⟨true, rfl, (fun h => by cases h), rfl⟩
    ·have t2 : (y == 15) = false := by simpa using h15
     have HT := Lib.hid (show NX f i from fun h1 h2 h3 => ⟨by rw [← HC.out.2.2.2.2.1]; exact HY.out.2, by rw [← HY.out.1]; exact h15⟩)
     clear h15
     go_wp2_with fail
     go_meet
     case rel => exact ⟨false, rfl, fun _ => HT.out, rfl⟩
 case rest =>
 obtain ⟨lv, rfl, hlv, rfl⟩ := hcut
 have HLV := Lib.hid hlv
 clear hlv
 cases lv
 rotate_left
 ·go_wp2_with fail
  go_ret
  exact ⟨true, rfl, (fun h => by cases h), H2.out.bel⟩
 have e0 := H2.out.cell 0 rfl 0 rfl
 go_wp2_with fail
 refine (rHas_any x.op 103 _).mono ?_
 rintro e W3 ⟨rfl, b3⟩
 have H3 := Lib.hid (H2.out.below b3)
 obtain ⟨hb, hhb⟩ : ∃ q, q = hasB x.op 103 := ⟨_, rfl⟩
 rw [← hhb]
 have HB := Lib.hid hhb
 clear b3 e0 hhb
 have e0 := H3.out.cell 0 rfl 0 rfl
 have e8 := H3.out.cell 0 rfl 8 rfl
 have d6 := H3.out.cell 1 rfl 6 rfl
 cases hb
 ·have HG := Lib.hid (show hasB x.op 103 = true → (nth f.cd x.g.toNat).op ≠ 15 from fun h => by rw [← HB.out] at h; cases h)
  by_cases hi0 : i = 0
  ·have t5 : ((i : Int) == 0) = true := by simp [hi0]
   by_cases h16 : x.op = 15
   ·have t6 : (x.op == 15) = true := by simp [h16]
    clear h16 hi0
    go_wp2_with fail
    go_ret
    exact ⟨true, rfl, (fun h => by cases h), H3.out.bel⟩
   ·have t6 : (x.op == 15) = false := by simpa using h16
    have HT := Lib.hid (show Stay f i (nth f.cd i) from ⟨HLV.out (by trivial), by rw [← HC.out.2.2.1]; exact HG.out, fun _ => by rw [← HC.out.2.2.1]; exact h16⟩)
    clear h16 hi0
    go_wp2_with fail
    go_ret
    exact ⟨false, rfl, fun _ => HT.out, H3.out.bel⟩
  ·have t5 : ((i : Int) == 0) = false := by simpa using hi0
   have HT := Lib.hid (show Stay f i (nth f.cd i) from ⟨HLV.out (by trivial), by rw [← HC.out.2.2.1]; exact HG.out, fun h => absurd h hi0⟩)
   clear hi0
   go_wp2_with fail
   go_ret
   exact ⟨false, rfl, fun _ => HT.out, H3.out.bel⟩
 ·have hg := HC.out.2.2.2.1.g HB.out.symm
  rw [← HC.out.2.2.2.2.1] at hg
  have j1 := HC.out.1.1 x.g (by omega) (by omega)
  obtain ⟨-, w7, -, hz⟩ := HC.out.1.2 x.g.toNat (by omega)
  obtain ⟨p0, -⟩ := hz _ H3.out.bel
  obtain ⟨y, hy⟩ : ∃ y, y = (nth f.cd x.g.toNat).op := ⟨_, rfl⟩
  rw [← hy] at p0
  have HY := Lib.hid hy
  clear hz hy hg
  by_cases h15 : y = 15
  ·have t2 : (y == 15) = true := by simp [h15]
   clear h15
   go_wp2_with fail
   go_ret
   exact ⟨true, rfl, (fun h => by cases h), H3.out.bel⟩
  ·have t2 : (y == 15) = false := by simpa using h15
   have HG := Lib.hid (show hasB x.op 103 = true → (nth f.cd x.g.toNat).op ≠ 15 from fun _ => by rw [← HY.out]; exact h15)
   clear h15
   by_cases hi0 : i = 0
   ·have t5 : ((i : Int) == 0) = true := by simp [hi0]
    by_cases h16 : x.op = 15
    ·have t6 : (x.op == 15) = true := by simp [h16]
     clear h16 hi0
     go_wp2_with fail
     go_ret
     exact ⟨true, rfl, (fun h => by cases h), H3.out.bel⟩
    ·have t6 : (x.op == 15) = false := by simpa using h16
     have HT := Lib.hid (show Stay f i (nth f.cd i) from ⟨HLV.out (by trivial), by rw [← HC.out.2.2.1]; exact HG.out, fun _ => by rw [← HC.out.2.2.1]; exact h16⟩)
     clear h16 hi0
     go_wp2_with fail
     go_ret
     exact ⟨false, rfl, fun _ => HT.out, H3.out.bel⟩
   ·have t5 : ((i : Int) == 0) = false := by simpa using hi0
    have HT := Lib.hid (show Stay f i (nth f.cd i) from ⟨HLV.out (by trivial), by rw [← HC.out.2.2.1]; exact HG.out, fun h => absurd h hi0⟩)
    clear hi0
    go_wp2_with fail
    go_ret
    exact ⟨false, rfl, fun _ => HT.out, H3.out.bel⟩
end Go.Proofs.YtnklnklkblgnfaaGreatDoor
end
section
namespace Go.Proofs.YtnklnklkblgnfaaGreatDoor
open Go.RowKit Go.Dfl Go.Obs Go.Hir
open Go.Gra (gen_code gen_calls)
def DeclR (cs : List Cl) (hv : Value) (c m : ByteArray) (W : World) (e : Ending) (W' : World) : Prop := ∃ (s : Sg) (pv : Value) (ok : Bool), e = .returned (.tuple #[sgV s pv, .bool ok]) ∧ InS vS W' pv s.ps ∧ (∀ W0, InS vCl W0 hv cs → Below W0.heap.size W0 W → InS vS W0 pv s.ps) ∧ (ok = true → methP cs c m = some (c, s) ∧ s.st = true) ∧ s.n.size ≤ maxLen ∧ s.r.size ≤ maxLen ∧ Below W.heap.size W W'
set_option maxHeartbeats 6400000 in
theorem rDeclares_any (cs : List Cl) (hv : Value) (c m : ByteArray) (W : World) (h : InS vCl W hv cs) (hl : cs.length ≤ 1000000) : Calls Tryz.prog 152 #[.agg #[hv], .string c, .string m] W (DeclR cs hv c m W) := by
 obtain ⟨ha, hc, rfl⟩ := h.shape
 have HE := Lib.hid (And.intro (((((Env.refl W).alloc [.slice ha cs.length hc] 24).below ((Below.refl _ _).alloc (Nat.le_refl _) (.cells #[.string ⟨#[]⟩, .bool false, .slice none 0 0, .string ⟨#[]⟩] 115))).add (q := fkH (W.heap.size + 1) (.cells #[.string ⟨#[]⟩, .bool false, .slice none 0 0, .string ⟨#[]⟩] 115)) (by
  have := heap_alloc_new (W.alloc (.cells #[.slice ha cs.length hc] 24)) (.cells #[.string ⟨#[]⟩, .bool false, .slice none 0 0, .string ⟨#[]⟩] 115)
  rw [World.size_alloc] at this
  exact this))) (show W.heap.size + 2 ≤ ((W.alloc (.cells #[.slice ha cs.length hc] 24)).alloc (.cells #[.string ⟨#[]⟩, .bool false, .slice none 0 0, .string ⟨#[]⟩] 115)).heap.size by rw [World.size_alloc, World.size_alloc]; omega))
 have HC := Lib.hid h
 clear h
 go_enter Tryz.func152, Tryz.ntmps152
 go_wp2_with fail
 refine (rMeth_any cs _ c m _ (HC.out.below HE.out.1.bel) hl).mono ?_
 rintro e W1 ⟨d, s, pv, ok, rfl, hp, hp0, hm, hn, hr, b1⟩
 obtain ⟨pa, pc, rfl⟩ := hp.shape
 obtain ⟨pn, hpn⟩ : ∃ n, n = s.ps.length := ⟨_, rfl⟩
 have HP0 := Lib.hid (show ∀ W0, InS vCl W0 (.slice ha cs.length hc) cs → Below W0.heap.size W0 W → InS vS W0 (.slice pa pn pc) s.ps from fun W0 h0 hb0 => by rw [hpn]; exact hp0 W0 h0 (hb0.trans (HE.out.1.bel.mono hb0.size)))
 clear hp0
 rw [← hpn] at hp ⊢
 obtain ⟨b, hb⟩ : ∃ b, b = W.heap.size := ⟨_, rfl⟩
 obtain ⟨br, hbr⟩ : ∃ br, br = W.heap.size + 1 := ⟨_, rfl⟩
 have HBR := Lib.hid hbr
 have HBB := Lib.hid hb
 have H1 := Lib.hid (And.intro (HE.out.1.below b1) (And.intro (Nat.le_trans HE.out.2 b1.size) (And.intro hp (And.intro hm (And.intro hn (And.intro hr hpn))))))
 rw [← hbr, ← hb] at H1
 rw [← hbr, ← hb]
 clear hp hm hn hr b1 HE hpn hbr hb
 go_upto_region 2 with fail
 obtain ⟨bn, hbn⟩ : ∃ b, b = W1.heap.size := ⟨_, rfl⟩
 have HPN := Lib.hid (show pn = s.ps.length from H1.out.2.2.2.2.2.2)
 have HN0 := Lib.hid (show bn ≠ br from by have := H1.out.2.1; have := HBR.out; have := HBB.out; omega)
 have hS : (W1.alloc (.cells #[.string s.n, .bool s.st, .slice pa pn pc, .string s.r] 115)).drew.cell? ⟨bn, 0, none⟩ = some (.string s.n) ∧ (W1.alloc (.cells #[.string s.n, .bool s.st, .slice pa pn pc, .string s.r] 115)).drew.cell? ⟨bn, 1, none⟩ = some (.bool s.st) ∧ (W1.alloc (.cells #[.string s.n, .bool s.st, .slice pa pn pc, .string s.r] 115)).drew.cell? ⟨bn, 2, none⟩ = some (.slice pa pn pc) ∧ (W1.alloc (.cells #[.string s.n, .bool s.st, .slice pa pn pc, .string s.r] 115)).drew.cell? ⟨bn, 3, none⟩ = some (.string s.r) := by
  have hc := cells_new (W := W1) (cs := [.string s.n, .bool s.st, .slice pa pn pc, .string s.r]) (t := 115) rfl
  rw [hbn]
  exact ⟨hc 0 _ rfl, hc 1 _ rfl, hc 2 _ rfl, hc 3 _ rfl⟩
 have hE : Env W [fkH br (.cells #[.string ⟨#[]⟩, .bool false, .slice none 0 0, .string ⟨#[]⟩] 115)] (W1.alloc (.cells #[.string s.n, .bool s.st, .slice pa pn pc, .string s.r] 115)).drew := ((H1.out.1.alloc _ _).sub (by simp)).drew
 have hbW : Below W1.heap.size W1 (W1.alloc (.cells #[.string s.n, .bool s.st, .slice pa pn pc, .string s.r] 115)).drew := ((Below.refl _ _).alloc (Nat.le_refl _) _).drew
 rw [← hbn]
 have HS := Lib.hid (And.intro hS (And.intro hE hbW))
 clear hS hE hbW hbn
 have HM := Lib.hid (show methP cs c m = (if ok then some (d, s) else none) from H1.out.2.2.2.1)
 cases ok
 ·generalize hV : (W1.alloc (.cells #[.string s.n, .bool s.st, .slice pa pn pc, .string s.r] 115)) = V at *
  clear hV
  refine wp_region_mix [0, 1, 2, 3, 4, 5, 6, 7, 8, 9, 10] [11, 12] (fun w' => w'.cell? ⟨bn, 0, none⟩ = some (.string s.n) ∧ w'.cell? ⟨bn, 1, none⟩ = some (.bool s.st) ∧ w'.cell? ⟨bn, 2, none⟩ = some (.slice pa pn pc) ∧ w'.cell? ⟨bn, 3, none⟩ = some (.string s.r)) (by kernel_rfl) (by kernel_rfl) (by kernel_rfl) HS.out.1 ?_
  repeat (
   first
   | (refine wpHeads_cons (v := undef) rfl (Or.inr ⟨by rfl, rfl⟩) ?_)
   | (refine wpHeads_cons (v := ?_) rfl (Or.inl ⟨by rfl, ?_⟩) ?_
      rotate_left
      ·(intro W hW; obtain ⟨x1, x2, x3, x4⟩ := hW; (try go_simp); try with_reducible rfl))
   simp only [Act.put, List.setIfInBounds_toArray, List.getElem_toArray, List.getElem_cons_zero, List.getElem_cons_succ, List.set_cons_succ, List.set_cons_zero])
  refine wpHeads_nil ?_
  have HED := Lib.hid HS.out.2.1
  have hNB : V.drew.heap[br]? = some (.cells #[.string ⟨#[]⟩, .bool false, .slice none 0 0, .string ⟨#[]⟩] 115) := HED.out.fact 0 rfl
  have hBW := HS.out.2.2
  have hS1 := HS.out.1
  generalize V.drew = V2 at *
  obtain ⟨⟨z0, z1, z2, z3, zf⟩, hC, hG⟩ := store4 (y0 := .string s.n) (y1 := .bool s.st) (y2 := .slice pa pn pc) (y3 := .string s.r) hNB
  have f0 := zf 0
  have f1 := zf 1
  have f2 := zf 2
  have f3 := zf 3
  have hS2 := And.intro (hG.cell hS1.1 (fun e => HN0.out (Option.some.inj e))) (And.intro (hG.cell hS1.2.1 (fun e => HN0.out (Option.some.inj e))) (And.intro (hG.cell hS1.2.2.1 (fun e => HN0.out (Option.some.inj e))) (hG.cell hS1.2.2.2 (fun e => HN0.out (Option.some.inj e)))))
  have hb4 : Below W.heap.size W _ := HED.out.bel.grown hG HED.out.bel.size (fun q e => by injection e with e; have := HBR.out; omega)
  have H4 := Lib.hid (And.intro hS2 (And.intro hb4 (And.intro hBW hG)))
  clear hS2 hb4 hC hNB zf hBW hS1 hG
  refine wpTails_cons rfl ?_
  go_wp2_with fail
  refine tail_mk H4.out.1 ?_
  refine wpTails_one rfl ?_
  go_wp2_with fail
  refine thenQ_mk ?_
  go_wp2_with fail
  (try simp only [Exit.inBlock, Exit.then])
  refine bodyPost_ret (v := .tuple #[sgV s (.slice pa pn pc), .bool false]) (by rw [results_cell_tmp rfl]; go_simp; try rfl) rfl ?_
  exact ⟨s, _, false, rfl, (HP0.out W HC.out (Below.refl _ _)).below H4.out.2.1, HP0.out, (fun h => by cases h), H1.out.2.2.2.2.1, H1.out.2.2.2.2.2.1, H4.out.2.1⟩
 ·by_cases hd : d = c
  ·have t0 := tl_eq hd
   have HM2 := Lib.hid (show s.st = true → methP cs c m = some (c, s) ∧ s.st = true from fun h => ⟨by have h8 := HM.out; rw [hd] at h8; exact h8, h⟩)
   clear hd
   generalize hV : (W1.alloc (.cells #[.string s.n, .bool s.st, .slice pa pn pc, .string s.r] 115)) = V at *
   clear hV
   refine wp_region_mix [0, 1, 2, 3, 4, 5, 6, 7, 8, 9, 10] [11, 12] (fun w' => w'.cell? ⟨bn, 0, none⟩ = some (.string s.n) ∧ w'.cell? ⟨bn, 1, none⟩ = some (.bool s.st) ∧ w'.cell? ⟨bn, 2, none⟩ = some (.slice pa pn pc) ∧ w'.cell? ⟨bn, 3, none⟩ = some (.string s.r)) (by kernel_rfl) (by kernel_rfl) (by kernel_rfl) HS.out.1 ?_
   repeat (
    first
    | (refine wpHeads_cons (v := undef) rfl (Or.inr ⟨by rfl, rfl⟩) ?_)
    | (refine wpHeads_cons (v := ?_) rfl (Or.inl ⟨by rfl, ?_⟩) ?_
       rotate_left
       ·(intro W hW; obtain ⟨x1, x2, x3, x4⟩ := hW; (try go_simp); try with_reducible rfl))
    simp only [Act.put, List.setIfInBounds_toArray, List.getElem_toArray, List.getElem_cons_zero, List.getElem_cons_succ, List.set_cons_succ, List.set_cons_zero])
   refine wpHeads_nil ?_
   have HED := Lib.hid HS.out.2.1
   have hNB : V.drew.heap[br]? = some (.cells #[.string ⟨#[]⟩, .bool false, .slice none 0 0, .string ⟨#[]⟩] 115) := HED.out.fact 0 rfl
   have hBW := HS.out.2.2
   have hS1 := HS.out.1
   generalize V.drew = V2 at *
   obtain ⟨⟨z0, z1, z2, z3, zf⟩, hC, hG⟩ := store4 (y0 := .string s.n) (y1 := .bool s.st) (y2 := .slice pa pn pc) (y3 := .string s.r) hNB
   have f0 := zf 0
   have f1 := zf 1
   have f2 := zf 2
   have f3 := zf 3
   have hS2 := And.intro (hG.cell hS1.1 (fun e => HN0.out (Option.some.inj e))) (And.intro (hG.cell hS1.2.1 (fun e => HN0.out (Option.some.inj e))) (And.intro (hG.cell hS1.2.2.1 (fun e => HN0.out (Option.some.inj e))) (hG.cell hS1.2.2.2 (fun e => HN0.out (Option.some.inj e)))))
   have hb4 : Below W.heap.size W _ := HED.out.bel.grown hG HED.out.bel.size (fun q e => by injection e with e; have := HBR.out; omega)
   have H4 := Lib.hid (And.intro hS2 (And.intro hb4 (And.intro hBW hG)))
   clear hS2 hb4 hC hNB zf hBW hS1 hG
   refine wpTails_cons rfl ?_
   go_wp2_with fail
   refine tail_mk H4.out.1 ?_
   refine wpTails_one rfl ?_
   go_wp2_with fail
   refine thenQ_mk ?_
   go_wp2_with fail
   (try simp only [Exit.inBlock, Exit.then])
   refine bodyPost_ret (v := .tuple #[sgV s (.slice pa pn pc), .bool s.st]) (by rw [results_cell_tmp rfl]; go_simp; try rfl) rfl ?_
   exact ⟨s, _, s.st, rfl, (HP0.out W HC.out (Below.refl _ _)).below H4.out.2.1, HP0.out, HM2.out, H1.out.2.2.2.2.1, H1.out.2.2.2.2.2.1, H4.out.2.1⟩
  ·have t0 := tl_ne hd
   clear hd
   generalize hV : (W1.alloc (.cells #[.string s.n, .bool s.st, .slice pa pn pc, .string s.r] 115)) = V at *
   clear hV
   refine wp_region_mix [0, 1, 2, 3, 4, 5, 6, 7, 8, 9, 10] [11, 12] (fun w' => w'.cell? ⟨bn, 0, none⟩ = some (.string s.n) ∧ w'.cell? ⟨bn, 1, none⟩ = some (.bool s.st) ∧ w'.cell? ⟨bn, 2, none⟩ = some (.slice pa pn pc) ∧ w'.cell? ⟨bn, 3, none⟩ = some (.string s.r)) (by kernel_rfl) (by kernel_rfl) (by kernel_rfl) HS.out.1 ?_
   repeat (
    first
    | (refine wpHeads_cons (v := undef) rfl (Or.inr ⟨by rfl, rfl⟩) ?_)
    | (refine wpHeads_cons (v := ?_) rfl (Or.inl ⟨by rfl, ?_⟩) ?_
       rotate_left
       ·(intro W hW; obtain ⟨x1, x2, x3, x4⟩ := hW; (try go_simp); try with_reducible rfl))
    simp only [Act.put, List.setIfInBounds_toArray, List.getElem_toArray, List.getElem_cons_zero, List.getElem_cons_succ, List.set_cons_succ, List.set_cons_zero])
   refine wpHeads_nil ?_
   have HED := Lib.hid HS.out.2.1
   have hNB : V.drew.heap[br]? = some (.cells #[.string ⟨#[]⟩, .bool false, .slice none 0 0, .string ⟨#[]⟩] 115) := HED.out.fact 0 rfl
   have hBW := HS.out.2.2
   have hS1 := HS.out.1
   generalize V.drew = V2 at *
   obtain ⟨⟨z0, z1, z2, z3, zf⟩, hC, hG⟩ := store4 (y0 := .string s.n) (y1 := .bool s.st) (y2 := .slice pa pn pc) (y3 := .string s.r) hNB
   have f0 := zf 0
   have f1 := zf 1
   have f2 := zf 2
   have f3 := zf 3
   have hS2 := And.intro (hG.cell hS1.1 (fun e => HN0.out (Option.some.inj e))) (And.intro (hG.cell hS1.2.1 (fun e => HN0.out (Option.some.inj e))) (And.intro (hG.cell hS1.2.2.1 (fun e => HN0.out (Option.some.inj e))) (hG.cell hS1.2.2.2 (fun e => HN0.out (Option.some.inj e)))))
   have hb4 : Below W.heap.size W _ := HED.out.bel.grown hG HED.out.bel.size (fun q e => by injection e with e; have := HBR.out; omega)
   have H4 := Lib.hid (And.intro hS2 (And.intro hb4 (And.intro hBW hG)))
   clear hS2 hb4 hC hNB zf hBW hS1 hG
   refine wpTails_cons rfl ?_
   go_wp2_with fail
   refine tail_mk H4.out.1 ?_
   refine wpTails_one rfl ?_
   go_wp2_with fail
   refine thenQ_mk ?_
   go_wp2_with fail
   (try simp only [Exit.inBlock, Exit.then])
   refine bodyPost_ret (v := .tuple #[sgV s (.slice pa pn pc), .bool false]) (by rw [results_cell_tmp rfl]; go_simp; try rfl) rfl ?_
   exact ⟨s, _, false, rfl, (HP0.out W HC.out (Below.refl _ _)).below H4.out.2.1, HP0.out, (fun h => by cases h), H1.out.2.2.2.2.1, H1.out.2.2.2.2.2.1, H4.out.2.1⟩
end Go.Proofs.YtnklnklkblgnfaaGreatDoor
end
section
namespace Go.Proofs.YtnklnklkblgnfaaGreatDoor
open Go.RowKit Go.Dfl Go.Obs Go.Hir
open Go.Gra (gen_code gen_calls)
def AccR (cs : List Cl) (f : Fu) (x : Is) (W : World) (e : Ending) (W' : World) : Prop := ∃ n : Int, e = .returned (.int .i64 n) ∧ (n = 0 → isC cs (vty f x.a) ∧ ∃ c t, fieldP cs (vty f x.a) x.m = some (c, t) ∧ (x.op = 7 → Hir.Fits cs t (vty f x.d)) ∧ (x.op = 8 → Hir.Fits cs (vty f x.b) t)) ∧ Below W.heap.size W W'
theorem vd_at {W : World} {va : Option Addr} {n vc : Nat} {f : Fu} (h : InS vVd W (.slice va n vc) f.vs) (hn : n = f.vs.length) {y : Int} (h0 : 0 ≤ y) (h1 : y < f.vs.length) :
  (∀ Z, (Instr.indexAt 92 (.slice va n vc) (.int .i64 y)).run Tryz.prog Z = .ok (.pointer (some ⟨blk va, ofs va + y.toNat * 2, none⟩)) Z) ∧ ∀ Z, Below W.heap.size W Z → Z.cell? ⟨blk va, ofs va + y.toNat * 2 + 1, none⟩ = some (.string (vty f y)) := by
 obtain ⟨_, _, hsh, -, hi, hc⟩ := InS.vd h
 injection hsh with e1 e2 e3
 subst e1 e3
 rw [← hn] at hi hc h1
 refine ⟨hi y h0 h1, fun Z hZ => ?_⟩
 obtain ⟨-, -, hz⟩ := hc y.toNat (by omega)
 exact (hz Z hZ).2
set_option maxHeartbeats 6400000 in
set_option maxRecDepth 8000 in
theorem rAccess_any (cs : List Cl) (hv : Value) (f : Fu) (vv cv : Value) (x : Is) (v : Value) (W : World) (h : InS vCl W hv cs) (hl : cs.length ≤ 1000000) (hvv : InS vVd W vv f.vs) (hcv : InS vIs W cv f.cd) (hxv : InS vI W v x.ar) (hr : Rng f x) (hop : x.op = 7 ∨ x.op = 8) :
  Calls Tryz.prog 140 #[.agg #[hv], fuV f vv cv, isV x v] W (AccR cs f x W) := by
 obtain ⟨ha, hc, rfl⟩ := h.shape
 obtain ⟨va, vc, rfl⟩ := hvv.shape
 obtain ⟨ca, cc, rfl⟩ := hcv.shape
 obtain ⟨xa, xc, rfl⟩ := hxv.shape
 obtain ⟨n, hn⟩ : ∃ n, n = f.vs.length := ⟨_, rfl⟩
 obtain ⟨m, hm⟩ : ∃ n, n = f.cd.length := ⟨_, rfl⟩
 obtain ⟨k, hk⟩ : ∃ n, n = x.ar.length := ⟨_, rfl⟩
 rw [← hn] at hvv
 rw [← hn, ← hm, ← hk]
 have hA : 0 ≤ x.a ∧ x.a < f.vs.length := by
  rcases hr.a (by rcases hop with e | e <;> rw [e] <;> rfl) with h1 | h1
  ·exact h1
  ·omega
 obtain ⟨ja, za⟩ := vd_at hvv hn hA.1 hA.2
 have HE := Lib.hid ((((Env.refl W).alloc [.slice ha cs.length hc] 24).alloc (fuC f (.slice va n vc) (.slice ca m cc)) 95).alloc (isC' x (.slice xa k xc)) 79)
 have HC := Lib.hid (And.intro h (And.intro (And.intro hvv hn) (And.intro hr (And.intro hop za))))
 clear h hvv hcv hxv hr hop hn hm hk hA za
 unfold fuV isV
 go_enter Tryz.func140, Tryz.ntmps140
 go_upto_region 1 with fail
 refine gen_code (fun Z => Env W [fkC (W.heap.size + 2) (isC' x (.slice xa k xc)), fkC (W.heap.size + 1) (fuC f (.slice va n vc) (.slice ca m cc)), fkC W.heap.size [.slice ha cs.length hc]] Z) (by have h := HE.out; rw [World.size_alloc, World.size_alloc] at h; exact h) ?_
 intro Z hZ
 obtain ⟨b, hb⟩ : ∃ b, b = W.heap.size := ⟨_, rfl⟩
 obtain ⟨bf, hbf⟩ : ∃ b, b = W.heap.size + 1 := ⟨_, rfl⟩
 obtain ⟨bx, hbx⟩ : ∃ b, b = W.heap.size + 2 := ⟨_, rfl⟩
 rw [← hbx, ← hbf, ← hb] at hZ ⊢
 have HZ := Lib.hid hZ
 have e2 := hZ.cell 0 rfl 2 rfl
 have d4 := hZ.cell 1 rfl 4 rfl
 have p1 := HC.out.2.2.2.2 Z hZ.bel
 have c0 := hZ.cell 2 rfl 0 rfl
 obtain ⟨t, ht⟩ : ∃ t, t = vty f x.a := ⟨_, rfl⟩
 rw [← ht] at p1
 have HT := Lib.hid ht
 clear hZ hb hbx hbf HE ht
 go_wp2_with fail
 refine (rIsClass_any cs _ t _ (HC.out.1.below HZ.out.bel)).mono ?_
 rintro e W2 ⟨rfl, b2⟩
 have H2 := Lib.hid (HZ.out.below b2)
 clear b2 e2 d4 p1 c0 ja HZ
 by_cases ht : isC cs t
 ·rw [decide_eq_true ht]
  have HI := Lib.hid ht
  have c0 := H2.out.cell 2 rfl 0 rfl
  have e6 := H2.out.cell 0 rfl 6 rfl
  clear ht
  go_wp2_with fail
  refine (rField_any cs _ t x.m _ (HC.out.1.below H2.out.bel) hl).mono ?_
  rintro e W3 ⟨rfl, b3⟩
  have H3 := Lib.hid (H2.out.below b3)
  clear b3 c0 e6 H2
  cases hx : fieldP cs t x.m with
  | none =>
    clear hx
    unfold fldV
    go_wp2_with fail
    go_ret
    exact ⟨6, rfl, (fun h => by cases h), H3.out.bel⟩
  | some y =>
    obtain ⟨d, u⟩ := y
    have HX := Lib.hid hx
    clear hx
    unfold fldV
    go_upto_region 7 with fail
    have hcase : (x.op = 7 ∧ 0 ≤ x.d ∧ x.d < f.vs.length) ∨ (x.op = 8 ∧ 0 ≤ x.b ∧ x.b < f.vs.length) := by
     rcases HC.out.2.2.2.1 with e | e
     ·rcases HC.out.2.2.1.d (by rw [e]; rfl) with h1 | h1
      ·exact .inl ⟨e, h1⟩
      ·omega
     ·exact .inr ⟨e, HC.out.2.2.1.b (by rw [e]; rfl)⟩
    obtain ⟨Cls, hCls⟩ : ∃ Cls : World → Prop, ∀ Z', Cls Z' ↔ Env W [fkC bx (isC' x (.slice xa k xc)), fkC bf (fuC f (.slice va n vc) (.slice ca m cc)), fkC b [.slice ha cs.length hc]] Z' := ⟨_, fun _ => Iff.rfl⟩
    have hC : Cls W3.drew := (hCls _).2 H3.out.drew
    have k0 := fun q : Wd Cls => (hCls _).1 q.ok
    have hB : ∀ q : Wd Cls, ∀ Z', Below q.val.heap.size q.val Z' → Cls Z' := fun q Z' hb => (hCls _).2 ((k0 q).below hb)
    haveI hne : Nonempty (Wd Cls) := ⟨⟨_, hC⟩⟩
    have e0 : ∀ q : Wd Cls, q.val.cell? ⟨bx, 0, none⟩ = some (.int .i64 x.op) := fun q => (k0 q).cell 0 rfl 0 rfl
    have d4 : ∀ q : Wd Cls, q.val.cell? ⟨bf, 4, none⟩ = some (.slice va n vc) := fun q => (k0 q).cell 1 rfl 4 rfl
    have c0 : ∀ q : Wd Cls, q.val.cell? ⟨b, 0, none⟩ = some (.slice ha cs.length hc) := fun q => (k0 q).cell 2 rfl 0 rfl
    have e1 : ∀ q : Wd Cls, q.val.cell? ⟨bx, 1, none⟩ = some (.int .i64 x.d) := fun q => (k0 q).cell 0 rfl 1 rfl
    have e3 : ∀ q : Wd Cls, q.val.cell? ⟨bx, 3, none⟩ = some (.int .i64 x.b) := fun q => (k0 q).cell 0 rfl 3 rfl
    have HK := Lib.hid k0
    have HCC := Lib.hid hC
    rcases hcase with ⟨h7, hd1, hd2⟩ | ⟨h8, hd1, hd2⟩
    ·obtain ⟨jd, zd⟩ := vd_at HC.out.2.1.1 HC.out.2.1.2 hd1 hd2
     obtain ⟨w, hw⟩ : ∃ w, w = vty f x.d := ⟨_, rfl⟩
     rw [← hw] at zd
     have p1 : ∀ q : Wd Cls, q.val.cell? ⟨blk va, ofs va + x.d.toNat * 2 + 1, none⟩ = some (.string w) := fun q => zd q.val (k0 q).bel
     obtain ⟨fb, hfb⟩ : ∃ q, q = fitsB cs u w := ⟨_, rfl⟩
     have f1 : ∀ q : Wd Cls, Calls Tryz.prog 139 #[.agg #[.slice ha cs.length hc], .string u, .string w] q.val fun e w'' => e = .returned (.bool fb) ∧ ∃ r : Wd Cls, w'' = r.val := fun q => cls_bel (hB q) (by rw [hfb]; exact rFits_any cs _ u w q.val (HC.out.1.below (k0 q).bel) hl)
     have F1 := Lib.hid f1
     have HR := Lib.hid (And.intro h7 (And.intro hw hfb))
     have t7 : (x.op == 7) = true := by simp [h7]
     have t8 : (x.op == 8) = false := by simp [h7]
     clear hCls hC k0 hB f1 hw hfb h7 hd1 hd2 zd
     cases fb
     ·refine wp_region_class Cls (by kernel_rfl) (by kernel_rfl) HCC.out ?_
      repeat (go_big_quiet_step ((go_at_call 139; exact F1.out _)))
      refine wpQuiet_nil ?_
      rintro _ ⟨q9, rfl⟩
      have H9 := Lib.hid (HK.out q9)
      clear e0 d4 c0 e1 e3 p1
      go_wp2_with fail
      go_ret
      exact ⟨8, rfl, (fun h => by cases h), H9.out.bel⟩
     ·refine wp_region_class Cls (by kernel_rfl) (by kernel_rfl) HCC.out ?_
      repeat (go_big_quiet_step ((go_at_call 139; exact F1.out _)))
      refine wpQuiet_nil ?_
      rintro _ ⟨q9, rfl⟩
      have H9 := Lib.hid (HK.out q9)
      clear e0 d4 c0 e1 e3 p1
      go_wp2_with fail
      go_ret
      exact ⟨0, rfl, fun _ => ⟨by rw [← HT.out]; exact HI.out, d, u, by rw [← HT.out]; exact HX.out, fun _ => by rw [← HR.out.2.1]; exact fitsB_ok HR.out.2.2.symm, fun h => by have := HR.out.1; omega⟩, H9.out.bel⟩
    ·obtain ⟨jd, zd⟩ := vd_at HC.out.2.1.1 HC.out.2.1.2 hd1 hd2
     obtain ⟨w, hw⟩ : ∃ w, w = vty f x.b := ⟨_, rfl⟩
     rw [← hw] at zd
     have p1 : ∀ q : Wd Cls, q.val.cell? ⟨blk va, ofs va + x.b.toNat * 2 + 1, none⟩ = some (.string w) := fun q => zd q.val (k0 q).bel
     obtain ⟨fb, hfb⟩ : ∃ q, q = fitsB cs w u := ⟨_, rfl⟩
     have f1 : ∀ q : Wd Cls, Calls Tryz.prog 139 #[.agg #[.slice ha cs.length hc], .string w, .string u] q.val fun e w'' => e = .returned (.bool fb) ∧ ∃ r : Wd Cls, w'' = r.val := fun q => cls_bel (hB q) (by rw [hfb]; exact rFits_any cs _ w u q.val (HC.out.1.below (k0 q).bel) hl)
     have F1 := Lib.hid f1
     have HR := Lib.hid (And.intro h8 (And.intro hw hfb))
     have t7 : (x.op == 7) = false := by simp [h8]
     have t8 : (x.op == 8) = true := by simp [h8]
     clear hCls hC k0 hB f1 hw hfb h8 hd1 hd2 zd
     cases fb
     ·refine wp_region_class Cls (by kernel_rfl) (by kernel_rfl) HCC.out ?_
      repeat (go_big_quiet_step ((go_at_call 139; exact F1.out _)))
      refine wpQuiet_nil ?_
      rintro _ ⟨q9, rfl⟩
      have H9 := Lib.hid (HK.out q9)
      clear e0 d4 c0 e1 e3 p1
      go_wp2_with fail
      go_ret
      exact ⟨8, rfl, (fun h => by cases h), H9.out.bel⟩
     ·refine wp_region_class Cls (by kernel_rfl) (by kernel_rfl) HCC.out ?_
      repeat (go_big_quiet_step ((go_at_call 139; exact F1.out _)))
      refine wpQuiet_nil ?_
      rintro _ ⟨q9, rfl⟩
      have H9 := Lib.hid (HK.out q9)
      clear e0 d4 c0 e1 e3 p1
      go_wp2_with fail
      go_ret
      exact ⟨0, rfl, fun _ => ⟨by rw [← HT.out]; exact HI.out, d, u, by rw [← HT.out]; exact HX.out, fun h => by have := HR.out.1; omega, fun _ => by rw [← HR.out.2.1]; exact fitsB_ok HR.out.2.2.symm⟩, H9.out.bel⟩
 ·rw [decide_eq_false ht]
  clear ht
  go_wp2_with fail
  go_ret
  exact ⟨8, rfl, (fun h => by cases h), H2.out.bel⟩
end Go.Proofs.YtnklnklkblgnfaaGreatDoor
end
section
namespace Go.Proofs.YtnklnklkblgnfaaGreatDoor
open Go.RowKit Go.Dfl Go.Obs Go.Hir
open Go.Gra (gen_code gen_calls)
structure IntsOk (cs : List Cl) (f : Fu) (x : Is) : Prop where
 const : x.op = 1 ∨ x.op = 5 → vty f x.d = tI
 null : x.op = 2 → vty f x.d ≠ tI
 copy : x.op = 3 → Hir.Fits cs (vty f x.a) (vty f x.d)
 bin : x.op = 4 → vty f x.d = tI
 shift : x.op = 16 → vty f x.a = tI ∧ vty f x.d = tI
 throw : x.op = 14 → vty f x.a ≠ tI
 ret : x.op = 13 → x.a ≠ -1 → Hir.Fits cs (vty f x.a) f.r
def IntsR (cs : List Cl) (f : Fu) (x : Is) (W : World) (e : Ending) (W' : World) : Prop := ∃ b : Bool, e = .returned (.bool b) ∧ (b = true → IntsOk cs f x) ∧ Below W.heap.size W W'
def tyD (f : Fu) (x : Is) : ByteArray := if hasB x.op 100 = true then vty f x.d else ⟨#[]⟩
def tyA (f : Fu) (x : Is) : ByteArray := if (hasB x.op 97 && decide (0 ≤ x.a)) = true then vty f x.a else ⟨#[]⟩
def tyB (f : Fu) (x : Is) : ByteArray := if hasB x.op 98 = true then vty f x.b else ⟨#[]⟩
set_option maxHeartbeats 6400000 in
set_option maxRecDepth 8000 in
theorem rInts_any (cs : List Cl) (hv : Value) (f : Fu) (vv cv : Value) (x : Is) (v : Value) (W : World) (h : InS vCl W hv cs) (hl : cs.length ≤ 1000000) (hvv : InS vVd W vv f.vs) (hcv : InS vIs W cv f.cd) (hxv : InS vI W v x.ar) (hr : Rng f x) (hop : x.op ≠ 9 ∧ x.op ≠ 10) :
  Calls Tryz.prog 142 #[.agg #[hv], fuV f vv cv, isV x v] W (IntsR cs f x W) := by
 obtain ⟨ha, hc, rfl⟩ := h.shape
 obtain ⟨va, vc, rfl⟩ := hvv.shape
 obtain ⟨ca, cc, rfl⟩ := hcv.shape
 obtain ⟨xa, xc, rfl⟩ := hxv.shape
 obtain ⟨n, hn⟩ : ∃ n, n = f.vs.length := ⟨_, rfl⟩
 obtain ⟨m, hm⟩ : ∃ n, n = f.cd.length := ⟨_, rfl⟩
 obtain ⟨k, hk⟩ : ∃ n, n = x.ar.length := ⟨_, rfl⟩
 rw [← hn] at hvv
 rw [← hn, ← hm, ← hk]
 have HE := Lib.hid ((((Env.refl W).alloc [.slice ha cs.length hc] 24).alloc (fuC f (.slice va n vc) (.slice ca m cc)) 95).alloc (isC' x (.slice xa k xc)) 79)
 have HC := Lib.hid (And.intro h (And.intro (And.intro hvv hn) (And.intro hr hop)))
 clear h hvv hcv hxv hr hop hn hm hk
 unfold fuV isV
 go_enter Tryz.func142, Tryz.ntmps142
 go_upto_region 1 with fail
 refine gen_code (fun Z => Env W [fkC (W.heap.size + 2) (isC' x (.slice xa k xc)), fkC (W.heap.size + 1) (fuC f (.slice va n vc) (.slice ca m cc)), fkC W.heap.size [.slice ha cs.length hc]] Z) (by have h := HE.out; rw [World.size_alloc, World.size_alloc] at h; exact h) ?_
 intro Z hZ
 obtain ⟨b, hb⟩ : ∃ b, b = W.heap.size := ⟨_, rfl⟩
 obtain ⟨bf, hbf⟩ : ∃ b, b = W.heap.size + 1 := ⟨_, rfl⟩
 obtain ⟨bx, hbx⟩ : ∃ b, b = W.heap.size + 2 := ⟨_, rfl⟩
 rw [← hbx, ← hbf, ← hb] at hZ ⊢
 have HZ := Lib.hid hZ
 have e0 := hZ.cell 0 rfl 0 rfl
 clear hZ hb hbx hbf HE
 go_wp2_with fail
 refine (rHas_any x.op 100 _).mono ?_
 rintro e W1 ⟨rfl, b1⟩
 have H1 := Lib.hid (HZ.out.below b1)
 obtain ⟨qd, hqd⟩ : ∃ q, q = hasB x.op 100 := ⟨_, rfl⟩
 rw [← hqd]
 have HQD := Lib.hid hqd
 obtain ⟨td, htd⟩ : ∃ t, t = tyD f x := ⟨_, rfl⟩
 have HTD := Lib.hid htd
 clear hqd b1 e0 HZ htd
 go_upto_if 12 with fail
 go_cut [7] (fun q wx => q = .string td ∧ wx = W1)
 case first =>
  cases qd
  ·have HT := Lib.hid (show td = ⟨#[]⟩ by rw [HTD.out]; unfold tyD; rw [← HQD.out]; rfl)
   go_wp2_with fail
   go_meet
   case rel => exact ⟨by rw [HT.out], rfl⟩
  ·have HT := Lib.hid (show td = vty f x.d by rw [HTD.out]; unfold tyD; rw [← HQD.out]; rfl)
   have hd : 0 ≤ x.d ∧ x.d < f.vs.length := by
    rcases HC.out.2.2.1.d HQD.out.symm with h1 | ⟨h1, -⟩
    ·exact h1
    ·have := HC.out.2.2.2; omega
   obtain ⟨jd, zd⟩ := vd_at HC.out.2.1.1 HC.out.2.1.2 hd.1 hd.2
   have p1 := zd W1 H1.out.bel
   rw [← HT.out] at p1
   have d4 := H1.out.cell 1 rfl 4 rfl
   have e1 := H1.out.cell 0 rfl 1 rfl
   clear hd zd
   go_wp2_with fail
   go_meet
   case rel => exact ⟨rfl, rfl⟩
 case rest =>
 obtain ⟨rfl, rfl⟩ := hcut
 obtain ⟨ga, hga⟩ : ∃ q, q = (hasB x.op 97 && decide (0 ≤ x.a)) := ⟨_, rfl⟩
 have HGA := Lib.hid hga
 obtain ⟨ta, hta⟩ : ∃ t, t = tyA f x := ⟨_, rfl⟩
 have HTA := Lib.hid hta
 clear hga HQD hta
 go_upto_region 4 with fail
 go_cut [27] (fun q wx => q = .bool ga ∧ Env W [fkC bx (isC' x (.slice xa k xc)), fkC bf (fuC f (.slice va n vc) (.slice ca m cc)), fkC b [.slice ha cs.length hc]] wx)
 case first =>
  have e0 := H1.out.cell 0 rfl 0 rfl
  go_wp2_with fail
  refine (rHas_any x.op 97 _).mono ?_
  rintro e W2 ⟨rfl, b2⟩
  have H2 := Lib.hid (H1.out.below b2)
  obtain ⟨qa, hqa⟩ : ∃ q, q = hasB x.op 97 := ⟨_, rfl⟩
  rw [← hqa]
  have HQA := Lib.hid hqa
  have e2 := H2.out.cell 0 rfl 2 rfl
  clear hqa b2 e0
  cases qa
  ·have HT := Lib.hid (show ga = false by rw [HGA.out, ← HQA.out]; rfl)
   go_wp2_with fail
   go_meet
   case rel => exact ⟨by rw [HT.out], H2.out⟩
  ·by_cases h0 : 0 ≤ x.a
   ·have HT := Lib.hid (show ga = true by rw [HGA.out, ← HQA.out, decide_eq_true h0]; rfl)
    go_wp2_with fail
    go_meet
    case rel => exact ⟨by rw [HT.out], H2.out⟩
   ·have hd : decide (0 ≤ x.a) = false := decide_eq_false h0
    have HT := Lib.hid (show ga = false by rw [HGA.out, ← HQA.out, hd]; rfl)
    go_wp2_with fail
    go_meet
    case rel => exact ⟨by rw [HT.out], H2.out⟩
 case rest =>
 obtain ⟨rfl, hE⟩ := hcut
 have H2 := Lib.hid hE
 clear hE H1
 go_upto_if 27 with fail
 go_cut [8] (fun q wx => q = .string ta ∧ Env W [fkC bx (isC' x (.slice xa k xc)), fkC bf (fuC f (.slice va n vc) (.slice ca m cc)), fkC b [.slice ha cs.length hc]] wx)
 case first =>
  cases ga
  ·have HT := Lib.hid (show ta = ⟨#[]⟩ by rw [HTA.out]; unfold tyA; rw [← HGA.out]; rfl)
   go_wp2_with fail
   go_meet
   case rel => exact ⟨by rw [HT.out], H2.out⟩
  ·have HT := Lib.hid (show ta = vty f x.a by rw [HTA.out]; unfold tyA; rw [← HGA.out]; rfl)
   have hga := HGA.out.symm
   rw [Bool.and_eq_true, decide_eq_true_eq] at hga
   have hd : 0 ≤ x.a ∧ x.a < f.vs.length := by
    rcases HC.out.2.2.1.a hga.1 with h1 | ⟨-, h1⟩
    ·exact h1
    ·omega
   obtain ⟨jd, zd⟩ := vd_at HC.out.2.1.1 HC.out.2.1.2 hd.1 hd.2
   have p1 := zd _ H2.out.bel
   rw [← HT.out] at p1
   have d4 := H2.out.cell 1 rfl 4 rfl
   have e1 := H2.out.cell 0 rfl 2 rfl
   clear hd zd hga
   go_wp2_with fail
   go_meet
   case rel => exact ⟨rfl, H2.out⟩
 case rest =>
 obtain ⟨rfl, hE⟩ := hcut
 have H3 := Lib.hid hE
 clear hE H2 HGA
 have e0 := H3.out.cell 0 rfl 0 rfl
 go_wp2_with fail
 refine (rHas_any x.op 98 _).mono ?_
 rintro e W4 ⟨rfl, b4⟩
 have H4 := Lib.hid (H3.out.below b4)
 obtain ⟨qb, hqb⟩ : ∃ q, q = hasB x.op 98 := ⟨_, rfl⟩
 rw [← hqb]
 have HQB := Lib.hid hqb
 obtain ⟨tb, htb⟩ : ∃ t, t = tyB f x := ⟨_, rfl⟩
 have HTB := Lib.hid htb
 clear hqb b4 e0 H3 htb
 go_upto_if 37 with fail
 go_cut [9] (fun q wx => q = .string tb ∧ wx = W4)
 case first =>
  cases qb
  ·have HT := Lib.hid (show tb = ⟨#[]⟩ by rw [HTB.out]; unfold tyB; rw [← HQB.out]; rfl)
   go_wp2_with fail
   go_meet
   case rel => exact ⟨by rw [HT.out], rfl⟩
  ·have HT := Lib.hid (show tb = vty f x.b by rw [HTB.out]; unfold tyB; rw [← HQB.out]; rfl)
   have hd := HC.out.2.2.1.b HQB.out.symm
   obtain ⟨jd, zd⟩ := vd_at HC.out.2.1.1 HC.out.2.1.2 hd.1 hd.2
   have p1 := zd W4 H4.out.bel
   rw [← HT.out] at p1
   have d4 := H4.out.cell 1 rfl 4 rfl
   have e1 := H4.out.cell 0 rfl 3 rfl
   clear hd zd
   go_wp2_with fail
   go_meet
   case rel => exact ⟨rfl, rfl⟩
 case rest =>
 obtain ⟨rfl, rfl⟩ := hcut
 have e0 := H4.out.cell 0 rfl 0 rfl
 have HV := Lib.hid (show (hasB x.op 100 = true → td = vty f x.d) ∧ (hasB x.op 97 = true → 0 ≤ x.a → ta = vty f x.a) from ⟨fun h => by rw [HTD.out]; unfold tyD; rw [if_pos h], fun h h0 => by rw [HTA.out]; unfold tyA; rw [h, decide_eq_true h0]; rfl⟩)
 by_cases h1 : x.op = 1 ∨ x.op = 5
 ·have HD := Lib.hid (HV.out.1 (by rcases h1 with e | e <;> rw [e] <;> rfl))
  have HO := Lib.hid h1
  have h15 : x.op = 1 ∨ x.op = 5 := h1
  by_cases ht : td = tI
  ·have t0 : (td.toList == [105, 110, 116]) = true := tl_lit ht
   have HK := Lib.hid (show IntsOk cs f x from ⟨fun _ => by rw [← HD.out]; exact ht, fun h => by have := HO.out; omega, fun h => by have := HO.out; omega, fun h => by have := HO.out; omega, fun h => by have := HO.out; omega, fun h => by have := HO.out; omega, fun h => by have := HO.out; omega⟩)
   clear ht h1
   rcases h15 with h | h <;> (rw [h] at e0; clear h; go_wp2_with fail; go_ret; exact ⟨true, rfl, fun _ => HK.out, H4.out.bel⟩)
  ·have t0 : (td.toList == [105, 110, 116]) = false := tl_litn ht
   clear ht h1
   rcases h15 with h | h <;> (rw [h] at e0; clear h; go_wp2_with fail; go_ret; exact ⟨false, rfl, (fun h => by cases h), H4.out.bel⟩)
 by_cases h2 : x.op = 2
 ·have HD := Lib.hid (HV.out.1 (by rw [h2]; rfl))
  have HO := Lib.hid h2
  rw [h2] at e0
  clear h1 h2
  by_cases ht : td = tI
  ·have t0 : (td.toList == [105, 110, 116]) = true := tl_lit ht
   have t1 : (td.toList != [105, 110, 116]) = false := by rw [bne, t0]; rfl
   clear ht
   go_wp2_with fail
   go_ret
   exact ⟨false, rfl, (fun h => by cases h), H4.out.bel⟩
  ·have t0 : (td.toList == [105, 110, 116]) = false := tl_litn ht
   have t1 : (td.toList != [105, 110, 116]) = true := by rw [bne, t0]; rfl
   have HK := Lib.hid (show IntsOk cs f x from ⟨fun h => by have := HO.out; omega, fun _ => by rw [← HD.out]; exact ht, fun h => by have := HO.out; omega, fun h => by have := HO.out; omega, fun h => by have := HO.out; omega, fun h => by have := HO.out; omega, fun h _ => by have := HO.out; omega⟩)
   clear ht
   go_wp2_with fail
   go_ret
   exact ⟨true, rfl, fun _ => HK.out, H4.out.bel⟩
 by_cases h2 : x.op = 3
 ·have HD := Lib.hid (HV.out.1 (by rw [h2]; rfl))
  have ha0 : 0 ≤ x.a := by
   rcases HC.out.2.2.1.a (by rw [h2]; rfl) with h | ⟨h, -⟩
   ·exact h.1
   ·omega
  have HA := Lib.hid (HV.out.2 (by rw [h2]; rfl) ha0)
  have HO := Lib.hid h2
  rw [h2] at e0
  have c0 := H4.out.cell 2 rfl 0 rfl
  clear h1 h2 ha0
  go_wp2_with fail
  refine (rFits_any cs _ ta td _ (HC.out.1.below H4.out.bel) hl).mono ?_
  rintro e W5 ⟨rfl, b5⟩
  obtain ⟨q, hq⟩ : ∃ q, q = fitsB cs ta td := ⟨_, rfl⟩
  rw [← hq]
  have H5 := Lib.hid (And.intro (H4.out.below b5).bel hq)
  clear b5 hq
  go_wp2_with fail
  go_ret
  exact ⟨q, rfl, fun hq => ⟨fun h => by have := HO.out; omega, fun h => by have := HO.out; omega, fun _ => by rw [← HA.out, ← HD.out]; exact fitsB_ok (by rw [← H5.out.2]; exact hq), fun h => by have := HO.out; omega, fun h => by have := HO.out; omega, fun h => by have := HO.out; omega, fun h _ => by have := HO.out; omega⟩, H5.out.1⟩
 by_cases h2 : x.op = 14
 ·have ha0 : 0 ≤ x.a := by
   rcases HC.out.2.2.1.a (by rw [h2]; rfl) with h | ⟨h, -⟩
   ·exact h.1
   ·omega
  have HA := Lib.hid (HV.out.2 (by rw [h2]; rfl) ha0)
  have HO := Lib.hid h2
  rw [h2] at e0
  clear h1 h2 ha0
  by_cases ht : ta = tI
  ·have t0 : (ta.toList == [105, 110, 116]) = true := tl_lit ht
   have t1 : (ta.toList != [105, 110, 116]) = false := by rw [bne, t0]; rfl
   clear ht
   go_wp2_with fail
   go_ret
   exact ⟨false, rfl, (fun h => by cases h), H4.out.bel⟩
  ·have t0 : (ta.toList == [105, 110, 116]) = false := tl_litn ht
   have t1 : (ta.toList != [105, 110, 116]) = true := by rw [bne, t0]; rfl
   have HK := Lib.hid (show IntsOk cs f x from ⟨fun h => by have := HO.out; omega, fun h => by have := HO.out; omega, fun h => by have := HO.out; omega, fun h => by have := HO.out; omega, fun h => by have := HO.out; omega, fun _ => by rw [← HA.out]; exact ht, fun h _ => by have := HO.out; omega⟩)
   clear ht
   go_wp2_with fail
   go_ret
   exact ⟨true, rfl, fun _ => HK.out, H4.out.bel⟩
 by_cases h2 : x.op = 16
 ·have HD := Lib.hid (HV.out.1 (by rw [h2]; rfl))
  have ha0 : 0 ≤ x.a := by
   rcases HC.out.2.2.1.a (by rw [h2]; rfl) with h | ⟨h, -⟩
   ·exact h.1
   ·omega
  have HA := Lib.hid (HV.out.2 (by rw [h2]; rfl) ha0)
  have HO := Lib.hid h2
  rw [h2] at e0
  clear h1 h2 ha0
  by_cases ht : ta = tI
  ·have t0 : (ta.toList == [105, 110, 116]) = true := tl_lit ht
   by_cases hd : td = tI
   ·have t1 : (td.toList == [105, 110, 116]) = true := tl_lit hd
    have HK := Lib.hid (show IntsOk cs f x from ⟨fun h => by have := HO.out; omega, fun h => by have := HO.out; omega, fun h => by have := HO.out; omega, fun h => by have := HO.out; omega, fun _ => ⟨by rw [← HA.out]; exact ht, by rw [← HD.out]; exact hd⟩, fun h => by have := HO.out; omega, fun h _ => by have := HO.out; omega⟩)
    clear ht hd
    go_wp2_with fail
    go_ret
    exact ⟨true, rfl, fun _ => HK.out, H4.out.bel⟩
   ·have t1 : (td.toList == [105, 110, 116]) = false := tl_litn hd
    clear ht hd
    go_wp2_with fail
    go_ret
    exact ⟨false, rfl, (fun h => by cases h), H4.out.bel⟩
  ·have t0 : (ta.toList == [105, 110, 116]) = false := tl_litn ht
   clear ht
   go_wp2_with fail
   go_ret
   exact ⟨false, rfl, (fun h => by cases h), H4.out.bel⟩
 by_cases h2 : x.op = 11
 ·have HO := Lib.hid h2
  have HK := Lib.hid (show IntsOk cs f x from ⟨fun h => by have := HO.out; omega, fun h => by have := HO.out; omega, fun h => by have := HO.out; omega, fun h => by have := HO.out; omega, fun h => by have := HO.out; omega, fun h => by have := HO.out; omega, fun h _ => by have := HO.out; omega⟩)
  rw [h2] at e0
  clear h1 h2
  by_cases ht : ta = tI
  ·have t0 : (ta.toList == [105, 110, 116]) = true := tl_lit ht
   clear ht
   go_wp2_with fail
   go_ret
   exact ⟨true, rfl, fun _ => HK.out, H4.out.bel⟩
  ·have t0 : (ta.toList == [105, 110, 116]) = false := tl_litn ht
   clear ht
   go_wp2_with fail
   go_ret
   exact ⟨false, rfl, (fun h => by cases h), H4.out.bel⟩
 by_cases h2 : x.op = 4
 ·have HD := Lib.hid (HV.out.1 (by rw [h2]; rfl))
  have HO := Lib.hid h2
  rw [h2] at e0
  have e4 := H4.out.cell 0 rfl 4 rfl
  clear h1 h2
  obtain ⟨qa, ta0⟩ : ∃ q, (ta.toList == [105, 110, 116]) = q := ⟨_, rfl⟩
  obtain ⟨qb, tb0⟩ : ∃ q, (tb.toList == [105, 110, 116]) = q := ⟨_, rfl⟩
  obtain ⟨qn, tn0⟩ : ∃ q, (x.n == 5) = q := ⟨_, rfl⟩
  have ta1 : (ta.toList != [105, 110, 116]) = !qa := by rw [bne, ta0]
  have tb1 : (tb.toList != [105, 110, 116]) = !qb := by rw [bne, tb0]
  by_cases ht : td = tI
  ·have t0 : (td.toList == [105, 110, 116]) = true := tl_lit ht
   have HK := Lib.hid (show IntsOk cs f x from ⟨fun h => by have := HO.out; omega, fun h => by have := HO.out; omega, fun h => by have := HO.out; omega, fun _ => by rw [← HD.out]; exact ht, fun h => by have := HO.out; omega, fun h => by have := HO.out; omega, fun h _ => by have := HO.out; omega⟩)
   clear ht
   cases qa <;> cases qb <;> cases qn <;> (simp only [Bool.not_true, Bool.not_false] at ta1 tb1; go_wp2_with fail; go_ret; exact ⟨_, rfl, fun _ => HK.out, H4.out.bel⟩)
  ·have t0 : (td.toList == [105, 110, 116]) = false := tl_litn ht
   clear ht ta0 tb0 tn0 ta1 tb1
   go_wp2_with fail
   go_ret
   exact ⟨false, rfl, (fun h => by cases h), H4.out.bel⟩
 by_cases h2 : x.op = 13
 ·have HO := Lib.hid h2
  rw [h2] at e0
  have e4 := H4.out.cell 0 rfl 2 rfl
  by_cases ha : x.a = -1
  ·have HK := Lib.hid (show IntsOk cs f x from ⟨fun h => by have := HO.out; omega, fun h => by have := HO.out; omega, fun h => by have := HO.out; omega, fun h => by have := HO.out; omega, fun h => by have := HO.out; omega, fun h => by have := HO.out; omega, fun _ h => absurd ha h⟩)
   have t0 : (x.a == -1) = true := by simp [ha]
   clear h1 h2 ha
   go_wp2_with fail
   go_ret
   exact ⟨true, rfl, fun _ => HK.out, H4.out.bel⟩
  ·have ha0 : 0 ≤ x.a := by
    rcases HC.out.2.2.1.a (by rw [h2]; rfl) with h | ⟨-, h⟩
    ·exact h.1
    ·exact absurd h ha
   have HA := Lib.hid (HV.out.2 (by rw [h2]; rfl) ha0)
   have t0 : (x.a == -1) = false := by simpa using ha
   have c0 := H4.out.cell 2 rfl 0 rfl
   have d5 := H4.out.cell 1 rfl 5 rfl
   clear h1 h2 ha ha0
   go_wp2_with fail
   refine (rFits_any cs _ ta f.r _ (HC.out.1.below H4.out.bel) hl).mono ?_
   rintro e W5 ⟨rfl, b5⟩
   obtain ⟨q, hq⟩ : ∃ q, q = fitsB cs ta f.r := ⟨_, rfl⟩
   rw [← hq]
   have H5 := Lib.hid (And.intro (H4.out.below b5).bel hq)
   clear b5 hq
   go_wp2_with fail
   go_ret
   exact ⟨q, rfl, fun hq => ⟨fun h => by have := HO.out; omega, fun h => by have := HO.out; omega, fun h => by have := HO.out; omega, fun h => by have := HO.out; omega, fun h => by have := HO.out; omega, fun h => by have := HO.out; omega, fun _ _ => by rw [← HA.out]; exact fitsB_ok (by rw [← H5.out.2]; exact hq)⟩, H5.out.1⟩
 rename_i n2 n3 n14 n16 n11 n4
 have HK := Lib.hid (show IntsOk cs f x from ⟨fun h => absurd h h1, fun h => absurd h n2, fun h => absurd h n3, fun h => absurd h n4, fun h => absurd h n16, fun h => absurd h n14, fun h => absurd h h2⟩)
 have t1 : (x.op == 1) = false := by simpa using fun h => h1 (.inl h)
 have t5 : (x.op == 5) = false := by simpa using fun h => h1 (.inr h)
 have t2 : (x.op == 2) = false := by simpa using n2
 have t3 : (x.op == 3) = false := by simpa using n3
 have t16 : (x.op == 16) = false := by simpa using n16
 have t11 : (x.op == 11) = false := by simpa using n11
 have t14 : (x.op == 14) = false := by simpa using n14
 have t4 : (x.op == 4) = false := by simpa using n4
 have t13 : (x.op == 13) = false := by simpa using h2
 clear h1 n2 n3 n14 n16 n11 n4 h2
 go_wp2_with fail
 go_ret
 exact ⟨true, rfl, fun _ => HK.out, H4.out.bel⟩
end Go.Proofs.YtnklnklkblgnfaaGreatDoor
end
section
namespace Go.Proofs.YtnklnklkblgnfaaGreatDoor
open Go.RowKit Go.Dfl Go.Obs Go.Hir
open Go.Gra (gen_code gen_calls)
def CallPart (cs : List Cl) (f : Fu) (x : Is) (s : Sg) : Prop :=
 (x.op = 9 → isC cs (vty f x.a) ∧ vty f x.a = x.c ∧ ∃ c, methP cs x.c x.m = some (c, s) ∧ s.st = false) ∧ (x.op = 10 → methP cs x.c x.m = some (x.c, s) ∧ s.st = true)
def CallR (cs : List Cl) (f : Fu) (x : Is) (W : World) (e : Ending) (W' : World) : Prop := ∃ n : Int, e = .returned (.int .i64 n) ∧ (n = 0 → ∃ s, CallPart cs f x s ∧ Sig cs f x s) ∧ Below W.heap.size W W'
def CutS (cs : List Cl) (f : Fu) (x : Is) (W : World) (bs : Nat) (L : List Fk) (q : Value) (wx : World) : Prop :=
 ∃ (ok : Bool) (s : Sg) (pa : Option Addr) (pc : Nat), q = .bool ok ∧ Env W (fkC bs [.string s.n, .bool s.st, .slice pa s.ps.length pc, .string s.r] :: L) wx ∧ InS vS W (.slice pa s.ps.length pc) s.ps ∧ (ok = true → CallPart cs f x s)
theorem fkC3_grown {bs bx bf b : Nat} {c1 c2 c3 : List Value} {Z Z' : World} (hg : Z.grownBy Z' (some bs)) (h1 : bs ≠ bx) (h2 : bs ≠ bf) (h3 : bs ≠ b) : ∀ f ∈ [fkC bx c1, fkC bf c2, fkC b c3], f.p Z → f.p Z' := fun f hf hp => by
 simp only [List.mem_cons, List.not_mem_nil, or_false] at hf
 rcases hf with rfl | rfl | rfl
 ·exact fkC_grown hp hg (fun e => h1 (Option.some.inj e).symm)
 ·exact fkC_grown hp hg (fun e => h2 (Option.some.inj e).symm)
 ·exact fkC_grown hp hg (fun e => h3 (Option.some.inj e).symm)
theorem ins_len {α : Type} [Inhabited α] {V : Vw α} {W : World} {v : Value} {l : List α} (h : InS V W v l) : l.length ≤ 9223372036854775807 := by
 obtain ⟨c, ⟨a, cap, rfl, h1, h2, -⟩, -⟩ := h
 unfold maxLen at h2; omega
theorem str_at {W : World} {pa : Option Addr} {pn pc : Nat} {l : List ByteArray} (h : InS vS W (.slice pa pn pc) l) (hn : pn = l.length) {j : Nat} (hj : j < pn) :
  (∀ Z, (Instr.indexAt 113 (.slice pa pn pc) (.int .i64 (j : Int))).run Tryz.prog Z = .ok (.pointer (some ⟨blk pa, ofs pa + j, none⟩)) Z) ∧ ∀ Z, Below W.heap.size W Z → Z.cell? ⟨blk pa, ofs pa + j, none⟩ = some (.string (nth l j)) := by
 obtain ⟨a, c, he, -, h1, h2⟩ := InS.strs h
 injection he with e1 e2 e3
 subst e1 e3
 subst hn
 refine ⟨fun Z => ?_, (h2 j hj).2.2⟩
 have := h1 (j : Int) (by omega) (by omega) Z
 rw [Int.toNat_natCast] at this; exact this
theorem int_at {W : World} {pa : Option Addr} {pn pc : Nat} {l : List Int} (h : InS vI W (.slice pa pn pc) l) (hn : pn = l.length) {j : Nat} (hj : j < pn) :
  (∀ Z, (Instr.indexAt 77 (.slice pa pn pc) (.int .i64 (j : Int))).run Tryz.prog Z = .ok (.pointer (some ⟨blk pa, ofs pa + j, none⟩)) Z) ∧ ∀ Z, Below W.heap.size W Z → Z.cell? ⟨blk pa, ofs pa + j, none⟩ = some (.int .i64 (nth l j)) := by
 obtain ⟨a, c, he, -, h1, h2⟩ := InS.ints1 h
 injection he with e1 e2 e3
 subst e1 e3
 subst hn
 refine ⟨fun Z => ?_, (h2 j hj).2.2⟩
 have := h1 (j : Int) (by omega) (by omega) Z
 rw [Int.toNat_natCast] at this; exact this
set_option maxHeartbeats 6400000 in
set_option maxRecDepth 8000 in
theorem rCheckCall_any (cs : List Cl) (hv : Value) (f : Fu) (vv cv : Value) (x : Is) (v : Value) (W : World) (h : InS vCl W hv cs) (hl : cs.length ≤ 1000000) (hvv : InS vVd W vv f.vs) (hcv : InS vIs W cv f.cd) (hxv : InS vI W v x.ar) (hr : Rng f x) (hop : x.op = 9 ∨ x.op = 10) :
  Calls Tryz.prog 141 #[.agg #[hv], fuV f vv cv, isV x v] W (CallR cs f x W) := by
 have hxv0 := hxv
 obtain ⟨ha, hc, rfl⟩ := h.shape
 obtain ⟨va, vc, rfl⟩ := hvv.shape
 obtain ⟨ca, cc, rfl⟩ := hcv.shape
 obtain ⟨xa, xc, rfl⟩ := hxv.shape
 obtain ⟨n, hn⟩ : ∃ n, n = f.vs.length := ⟨_, rfl⟩
 obtain ⟨m, hm⟩ : ∃ n, n = f.cd.length := ⟨_, rfl⟩
 obtain ⟨k, hk⟩ : ∃ n, n = x.ar.length := ⟨_, rfl⟩
 rw [← hn] at hvv
 rw [← hk] at hxv
 rw [← hn, ← hm, ← hk]
 have HX := Lib.hid (And.intro hxv hk)
 have hkl : k ≤ 9223372036854775807 := by rw [hk]; exact ins_len hxv0
 have HE := Lib.hid ((((Env.refl W).alloc [.slice ha cs.length hc] 24).alloc (fuC f (.slice va n vc) (.slice ca m cc)) 95).alloc (isC' x (.slice xa k xc)) 79)
 have HC := Lib.hid (And.intro h (And.intro (And.intro hvv hn) (And.intro hr hop)))
 clear h hvv hcv hxv hr hop hn hm hk hxv0
 unfold fuV isV
 go_enter Tryz.func141, Tryz.ntmps141
 go_upto_region 1 with fail
 refine gen_code (fun Z => Env W [fkC (W.heap.size + 2) (isC' x (.slice xa k xc)), fkC (W.heap.size + 1) (fuC f (.slice va n vc) (.slice ca m cc)), fkC W.heap.size [.slice ha cs.length hc]] Z ∧ Z.heap.size = W.heap.size + 3) (by have h := HE.out; rw [World.size_alloc, World.size_alloc] at h; exact ⟨h, by rw [World.size_alloc, World.size_alloc, World.size_alloc]⟩) ?_
 rintro Z ⟨hZ, hz⟩
 obtain ⟨b, hb⟩ : ∃ b, b = W.heap.size := ⟨_, rfl⟩
 obtain ⟨bf, hbf⟩ : ∃ b, b = W.heap.size + 1 := ⟨_, rfl⟩
 obtain ⟨bx, hbx⟩ : ∃ b, b = W.heap.size + 2 := ⟨_, rfl⟩
 obtain ⟨bs, hbs⟩ : ∃ b, b = Z.heap.size := ⟨_, rfl⟩
 have HB := Lib.hid (show b = W.heap.size ∧ bf = W.heap.size + 1 ∧ bx = W.heap.size + 2 ∧ bs = W.heap.size + 3 from ⟨hb, hbf, hbx, by rw [hbs, hz]⟩)
 rw [← hbx, ← hbf, ← hb] at hZ ⊢
 have hE1 := (hZ.below ((Below.refl _ _).alloc (Nat.le_refl _) (.cells #[.string ⟨#[]⟩, .bool false, .slice none 0 0, .string ⟨#[]⟩] 115))).add (q := fkH Z.heap.size (.cells #[.string ⟨#[]⟩, .bool false, .slice none 0 0, .string ⟨#[]⟩] 115)) (heap_alloc_new _ _)
 rw [← hbs] at hE1
 have HZ := Lib.hid (And.intro hE1 hbs)
 clear hZ hb hbx hbf HE hE1 hbs hz
 go_upto_region 2 with fail
 rw [← HZ.out.2]
 refine gen_code (fun Z' => Env W [fkH bs (.cells #[.string ⟨#[]⟩, .bool false, .slice none 0 0, .string ⟨#[]⟩] 115), fkC bx (isC' x (.slice xa k xc)), fkC bf (fuC f (.slice va n vc) (.slice ca m cc)), fkC b [.slice ha cs.length hc]] Z') HZ.out.1 ?_
 intro Y hY
 have HY := Lib.hid hY
 have e0 := hY.cell 1 rfl 0 rfl
 clear hY HZ
 go_upto_if 14 with fail
 go_cut [8] (fun q wx => CutS cs f x W bs [fkC bx (isC' x (.slice xa k xc)), fkC bf (fuC f (.slice va n vc) (.slice ca m cc)), fkC b [.slice ha cs.length hc]] q wx)
 case first =>
  rcases HC.out.2.2.2 with h9 | h10
  ·have hA : 0 ≤ x.a ∧ x.a < f.vs.length := by
    rcases HC.out.2.2.1.a (by rw [h9]; rfl) with h1 | h1
    ·exact h1
    ·omega
   obtain ⟨ja, za⟩ := vd_at HC.out.2.1.1 HC.out.2.1.2 hA.1 hA.2
   have H9 := Lib.hid h9
   have e2 := HY.out.cell 1 rfl 2 rfl
   have d4 := HY.out.cell 2 rfl 4 rfl
   have p1 := za Y HY.out.bel
   have c0 := HY.out.cell 3 rfl 0 rfl
   obtain ⟨t, ht⟩ : ∃ t, t = vty f x.a := ⟨_, rfl⟩
   rw [← ht] at p1
   have HT := Lib.hid ht
   have t9 : (x.op == 9) = true := by simp [h9]
   clear ht h9 hA za
   go_wp2_with fail
   refine (rIsClass_any cs _ t _ (HC.out.1.below HY.out.bel)).mono ?_
   rintro e W2 ⟨rfl, b2⟩
   have H2 := Lib.hid (HY.out.below b2)
   clear b2 e2 d4 p1 c0 ja HY e0
   by_cases ht : isC cs t
   ·rw [decide_eq_true ht]
    have HI := Lib.hid ht
    have e5 := H2.out.cell 1 rfl 5 rfl
    clear ht
    by_cases he : t = x.c
    ·have t1 := tn_eq he
     have t2 := tl_eq he
     have HQ := Lib.hid he
     have c0 := H2.out.cell 3 rfl 0 rfl
     have e6 := H2.out.cell 1 rfl 6 rfl
     clear he
     go_wp2_with fail
     refine (rMeth_any cs _ t x.m _ (HC.out.1.below H2.out.bel) hl).mono ?_
     rintro e W3 ⟨d, s, pv, ok, rfl, hp, hp0, hm, hn, hr, b3⟩
     obtain ⟨pa, pc, rfl⟩ := hp.shape
     obtain ⟨pn, hpn⟩ : ∃ n, n = s.ps.length := ⟨_, rfl⟩
     have HP := Lib.hid (And.intro (hp0 W HC.out.1 H2.out.bel) (And.intro hm hpn))
     have H3 := Lib.hid (H2.out.below b3)
     rw [← hpn]
     clear hp hp0 hm hn hr b3 hpn c0 e6 H2 e5
     have hNB : W3.heap[bs]? = some (.cells #[.string ⟨#[]⟩, .bool false, .slice none 0 0, .string ⟨#[]⟩] 115) := H3.out.fact 0 rfl
     obtain ⟨⟨z0, z1, z2, z3, zf⟩, hC, hG⟩ := store4 (y0 := .string s.n) (y1 := .bool s.st) (y2 := .slice pa pn pc) (y3 := .string s.r) hNB
     have f0 := zf 0
     have f1 := zf 1
     have f2 := zf 2
     have f3 := zf 3
     have c1 := hC 1 _ rfl
     have HS := Lib.hid (show Env W [fkC bs [.string s.n, .bool s.st, .slice pa pn pc, .string s.r], fkC bx (isC' x (.slice xa k xc)), fkC bf (fuC f (.slice va n vc) (.slice ca m cc)), fkC b [.slice ha cs.length hc]] _ from ((H3.out.drop 1).grown hG (fun q e => by injection e with e; have := HB.out; omega) (fkC3_grown hG (by have := HB.out; omega) (by have := HB.out; omega) (by have := HB.out; omega))).add hC)
     clear hNB hC hG zf
     cases ok
     ·go_wp2_with fail
      go_meet
      case rel => exact ⟨false, s, pa, pc, rfl, by rw [← HP.out.2.2]; exact HS.out, HP.out.1, fun h => by cases h⟩
     ·rcases Bool.eq_false_or_eq_true s.st with hst | hst
      ·go_wp2_with fail
       go_meet
       case rel => exact ⟨false, s, pa, pc, rfl, by rw [← HP.out.2.2]; have h5 := HS.out; rw [hst] at h5 ⊢; exact h5, HP.out.1, fun h => by cases h⟩
      ·have HST := Lib.hid hst
       go_wp2_with fail
       go_meet
       case rel => exact ⟨true, s, pa, pc, rfl, by rw [← HP.out.2.2]; have h5 := HS.out; rw [hst] at h5 ⊢; exact h5, HP.out.1, fun _ => ⟨fun _ => ⟨by rw [← HT.out]; exact HI.out, by rw [← HT.out]; exact HQ.out, d, by have := HP.out.2.1; rw [HQ.out] at this; exact this, HST.out⟩, fun h => by have := H9.out; omega⟩⟩
    ·have t1 := tn_ne he
     have t2 := tl_ne he
     clear he
     go_wp2_with fail
     go_ret
     exact ⟨8, rfl, (fun h => by cases h), H2.out.bel⟩
   ·rw [decide_eq_false ht]
    clear ht
    go_wp2_with fail
    go_ret
    exact ⟨8, rfl, (fun h => by cases h), H2.out.bel⟩
  ·have H10 := Lib.hid h10
   have c0 := HY.out.cell 3 rfl 0 rfl
   have e5 := HY.out.cell 1 rfl 5 rfl
   have e6 := HY.out.cell 1 rfl 6 rfl
   have t9 : (x.op == 9) = false := by simp [h10]
   clear h10
   go_wp2_with fail
   refine (rDeclares_any cs _ x.c x.m _ (HC.out.1.below HY.out.bel) hl).mono ?_
   rintro e W3 ⟨s, pv, ok, rfl, hp, hp0, hm, hn, hr, b3⟩
   obtain ⟨pa, pc, rfl⟩ := hp.shape
   obtain ⟨pn, hpn⟩ : ∃ n, n = s.ps.length := ⟨_, rfl⟩
   have HP := Lib.hid (And.intro (hp0 W HC.out.1 HY.out.bel) (And.intro hm hpn))
   have H3 := Lib.hid (HY.out.below b3)
   rw [← hpn]
   clear hp hp0 hm hn hr b3 hpn c0 e5 e6 HY e0
   have hNB : W3.heap[bs]? = some (.cells #[.string ⟨#[]⟩, .bool false, .slice none 0 0, .string ⟨#[]⟩] 115) := H3.out.fact 0 rfl
   obtain ⟨⟨z0, z1, z2, z3, zf⟩, hC, hG⟩ := store4 (y0 := .string s.n) (y1 := .bool s.st) (y2 := .slice pa pn pc) (y3 := .string s.r) hNB
   have f0 := zf 0
   have f1 := zf 1
   have f2 := zf 2
   have f3 := zf 3
   have c1 := hC 1 _ rfl
   have HS := Lib.hid (show Env W [fkC bs [.string s.n, .bool s.st, .slice pa pn pc, .string s.r], fkC bx (isC' x (.slice xa k xc)), fkC bf (fuC f (.slice va n vc) (.slice ca m cc)), fkC b [.slice ha cs.length hc]] _ from ((H3.out.drop 1).grown hG (fun q e => by injection e with e; have := HB.out; omega) (fkC3_grown hG (by have := HB.out; omega) (by have := HB.out; omega) (by have := HB.out; omega))).add hC)
   clear hNB hC hG zf
   go_wp2_with fail
   go_meet
   case rel => exact ⟨ok, s, pa, pc, rfl, by rw [← HP.out.2.2]; exact HS.out, HP.out.1, fun h => ⟨fun h9 => by have := H10.out; omega, fun _ => HP.out.2.1 h⟩⟩
 case rest =>
 obtain ⟨ok, s, pa, pc, rfl, hE, hP, hok⟩ := hcut
 clear HY e0
 cases ok
 ·have H1 := Lib.hid hE
  clear hE hP hok
  go_wp2_with fail
  go_ret
  exact ⟨6, rfl, (fun h => by cases h), H1.out.bel⟩
 obtain ⟨pn, hpn⟩ : ∃ n, n = s.ps.length := ⟨_, rfl⟩
 rw [← hpn] at hE hP
 have HS := Lib.hid (And.intro hE (And.intro hP (And.intro (hok rfl) hpn)))
 have g3 := hE.cell 0 rfl 2 rfl
 have g2 := hE.cell 1 rfl 7 rfl
 clear hE hP hok hpn
 by_cases hnk : pn = k
 case neg =>
  have t0 : (decide ((pn : Int) = (k : Int))) = false := decide_eq_false (by omega)
  have t1 : (decide (pn = k)) = false := decide_eq_false hnk
  have t2 : ((pn : Int) != (k : Int)) = true := by simp; omega
  clear hnk
  go_wp2_with fail
  go_ret
  exact ⟨9, rfl, (fun h => by cases h), HS.out.1.bel⟩
 have HNK := Lib.hid hnk
 have t0 : (decide ((pn : Int) = (k : Int))) = true := decide_eq_true (by omega)
 have t2 : ((pn : Int) != (k : Int)) = false := by simp; omega
 clear hnk
 go_wp2_with fail
 clear g2 g3 t0 t2
 go_loopw [10] (fun z wr => ∃ j : Nat, j ≤ k ∧ z = .int .i64 (j : Int) ∧ Hid (Env W [fkC bs [.string s.n, .bool s.st, .slice pa pn pc, .string s.r], fkC bx (isC' x (.slice xa k xc)), fkC bf (fuC f (.slice va n vc) (.slice ca m cc)), fkC b [.slice ha cs.length hc]] wr) ∧ Hid (∀ i, i < j → Hir.Fits cs (vty f (nth x.ar i)) (nth s.ps i))) (fun z _ => k - (intOf z).toNat)
 case atStart => exact ⟨0, by omega, rfl, HS.out.1, fun i hi => by omega⟩
 case round =>
  obtain ⟨j, hj, rfl, hh, hF⟩ := hrel
  have d7 := hh.out.cell 1 rfl 7 rfl
  by_cases hlt : j < k
  ·have hki : (j : Int) < (k : Int) := by omega
   obtain ⟨yi, hyi⟩ : ∃ q, q = nth x.ar j := ⟨_, rfl⟩
   obtain ⟨us, hus⟩ : ∃ q, q = nth s.ps j := ⟨_, rfl⟩
   have hR := HC.out.2.2.1.l (by rcases HC.out.2.2.2 with e | e <;> rw [e] <;> rfl) yi (by rw [hyi]; exact nth_mem _ _ (by rw [← HX.out.2]; exact hlt))
   obtain ⟨i1, z1⟩ := int_at HX.out.1 HX.out.2 hlt
   obtain ⟨i2, z2⟩ := str_at HS.out.2.1 HS.out.2.2.2 (j := j) (by rw [HNK.out]; exact hlt)
   obtain ⟨i3, z3⟩ := vd_at HC.out.2.1.1 HC.out.2.1.2 hR.1 hR.2
   rw [← hyi] at z1
   rw [← hus] at z2
   obtain ⟨ws, hws⟩ : ∃ q, q = vty f yi := ⟨_, rfl⟩
   rw [← hws] at z3
   have HV := Lib.hid (And.intro (And.intro hyi hus) (And.intro hws (And.intro hF hlt)))
   have hlt2 : j < pn := by rw [HNK.out]; exact hlt
   go_upto_region 17 with fail
   clear d7
   obtain ⟨Cls, hCls⟩ : ∃ Cls : World → Prop, ∀ Z', Cls Z' ↔ Env W [fkC bs [.string s.n, .bool s.st, .slice pa pn pc, .string s.r], fkC bx (isC' x (.slice xa k xc)), fkC bf (fuC f (.slice va n vc) (.slice ca m cc)), fkC b [.slice ha cs.length hc]] Z' := ⟨_, fun _ => Iff.rfl⟩
   have hC : Cls wr.drew := (hCls _).2 hh.out.drew
   have k0 := fun q : Wd Cls => (hCls _).1 q.ok
   have hB : ∀ q : Wd Cls, ∀ Z', Below q.val.heap.size q.val Z' → Cls Z' := fun q Z' hb => (hCls _).2 ((k0 q).below hb)
   haveI hne : Nonempty (Wd Cls) := ⟨⟨_, hC⟩⟩
   have g0 : ∀ q : Wd Cls, q.val.cell? ⟨b, 0, none⟩ = some (.slice ha cs.length hc) := fun q => (k0 q).cell 3 rfl 0 rfl
   have g1 : ∀ q : Wd Cls, q.val.cell? ⟨bf, 4, none⟩ = some (.slice va n vc) := fun q => (k0 q).cell 2 rfl 4 rfl
   have g2 : ∀ q : Wd Cls, q.val.cell? ⟨bx, 7, none⟩ = some (.slice xa k xc) := fun q => (k0 q).cell 1 rfl 7 rfl
   have g3 : ∀ q : Wd Cls, q.val.cell? ⟨bs, 2, none⟩ = some (.slice pa pn pc) := fun q => (k0 q).cell 0 rfl 2 rfl
   have g4 : ∀ q : Wd Cls, q.val.cell? ⟨bs, 3, none⟩ = some (.string s.r) := fun q => (k0 q).cell 0 rfl 3 rfl
   have g5 : ∀ q : Wd Cls, q.val.cell? ⟨bx, 1, none⟩ = some (.int .i64 x.d) := fun q => (k0 q).cell 1 rfl 1 rfl
   have HK := Lib.hid k0
   have HCC := Lib.hid hC
   have p1 : ∀ q : Wd Cls, q.val.cell? ⟨blk xa, ofs xa + j, none⟩ = some (.int .i64 yi) := fun q => z1 q.val (k0 q).bel
   have p2 : ∀ q : Wd Cls, q.val.cell? ⟨blk pa, ofs pa + j, none⟩ = some (.string us) := fun q => z2 q.val (k0 q).bel
   have p3 : ∀ q : Wd Cls, q.val.cell? ⟨blk va, ofs va + yi.toNat * 2 + 1, none⟩ = some (.string ws) := fun q => z3 q.val (k0 q).bel
   obtain ⟨fb, hfb⟩ : ∃ q, q = fitsB cs ws us := ⟨_, rfl⟩
   have f1 : ∀ q : Wd Cls, Calls Tryz.prog 139 #[.agg #[.slice ha cs.length hc], .string ws, .string us] q.val fun e w'' => e = .returned (.bool fb) ∧ ∃ r : Wd Cls, w'' = r.val := fun q => cls_bel (hB q) (by rw [hfb]; exact rFits_any cs _ ws us q.val (HC.out.1.below (k0 q).bel) hl)
   have F1 := Lib.hid f1
   have HFB := Lib.hid hfb
   clear hCls hC k0 hB f1 hfb hyi hus hws hF z1 z2 z3 hR
   cases fb
   ·refine wp_region_class Cls (by kernel_rfl) (by kernel_rfl) HCC.out ?_
    repeat (go_big_quiet_step ((go_at_call 139; exact F1.out _)))
    refine wpQuiet_nil ?_
    rintro _ ⟨q9, rfl⟩
    have H9 := Lib.hid (HK.out q9)
    clear g0 g1 g2 g3 g4 g5 p1 p2 p3
    go_wp2_with fail
    go_ret
    exact ⟨8, rfl, (fun h => by cases h), H9.out.bel⟩
   ·refine wp_region_class Cls (by kernel_rfl) (by kernel_rfl) HCC.out ?_
    repeat (go_big_quiet_step ((go_at_call 139; exact F1.out _)))
    refine wpQuiet_nil ?_
    rintro _ ⟨q9, rfl⟩
    have H9 := Lib.hid (HK.out q9)
    clear g0 g1 g2 g3 g4 g5 p1 p2 p3
    go_wp2_with fail
    go_roundw
    case rel => exact ⟨j + 1, by omega, by go_num, H9.out, fun i hi => by
     by_cases e : i = j
     ·rw [e, ← HV.out.1.1, ← HV.out.1.2, ← HV.out.2.1]; exact fitsB_ok HFB.out.symm
     ·exact HV.out.2.2.1 i (by omega)⟩
    case measure => simp [intOf]; omega
  ·obtain rfl : k = j := by omega
   have HF := Lib.hid hF
   clear hlt hj hF
   go_upto_region 19 with fail
   clear d7
   obtain ⟨Cls, hCls⟩ : ∃ Cls : World → Prop, ∀ Z', Cls Z' ↔ Env W [fkC bs [.string s.n, .bool s.st, .slice pa pn pc, .string s.r], fkC bx (isC' x (.slice xa k xc)), fkC bf (fuC f (.slice va n vc) (.slice ca m cc)), fkC b [.slice ha cs.length hc]] Z' := ⟨_, fun _ => Iff.rfl⟩
   have hC : Cls wr.drew := (hCls _).2 hh.out.drew
   have k0 := fun q : Wd Cls => (hCls _).1 q.ok
   have hB : ∀ q : Wd Cls, ∀ Z', Below q.val.heap.size q.val Z' → Cls Z' := fun q Z' hb => (hCls _).2 ((k0 q).below hb)
   haveI hne : Nonempty (Wd Cls) := ⟨⟨_, hC⟩⟩
   have g0 : ∀ q : Wd Cls, q.val.cell? ⟨b, 0, none⟩ = some (.slice ha cs.length hc) := fun q => (k0 q).cell 3 rfl 0 rfl
   have g1 : ∀ q : Wd Cls, q.val.cell? ⟨bf, 4, none⟩ = some (.slice va n vc) := fun q => (k0 q).cell 2 rfl 4 rfl
   have g2 : ∀ q : Wd Cls, q.val.cell? ⟨bx, 7, none⟩ = some (.slice xa k xc) := fun q => (k0 q).cell 1 rfl 7 rfl
   have g3 : ∀ q : Wd Cls, q.val.cell? ⟨bs, 2, none⟩ = some (.slice pa pn pc) := fun q => (k0 q).cell 0 rfl 2 rfl
   have g4 : ∀ q : Wd Cls, q.val.cell? ⟨bs, 3, none⟩ = some (.string s.r) := fun q => (k0 q).cell 0 rfl 3 rfl
   have g5 : ∀ q : Wd Cls, q.val.cell? ⟨bx, 1, none⟩ = some (.int .i64 x.d) := fun q => (k0 q).cell 1 rfl 1 rfl
   have HK := Lib.hid k0
   have HCC := Lib.hid hC
   by_cases hd : x.d = -1
   ·have t0 : (x.d != -1) = false := by simp [hd]
    have t1 : (x.d == -1) = true := by simp [hd]
    have HSG := Lib.hid (show Sig cs f x s from ⟨by rw [← HS.out.2.2.2, ← HX.out.2]; exact HNK.out, fun i hi => HF.out i (by rw [HX.out.2]; exact hi), fun h => absurd hd h⟩)
    clear hCls hC k0 hB hd
    refine wp_region_class Cls (by kernel_rfl) (by kernel_rfl) HCC.out ?_
    repeat (go_big_quiet_step (fail))
    refine wpQuiet_nil ?_
    rintro _ ⟨q9, rfl⟩
    have H9 := Lib.hid (HK.out q9)
    clear g0 g1 g2 g3 g4 g5
    go_wp2_with fail
    go_ret
    exact ⟨0, rfl, fun _ => ⟨s, HS.out.2.2.1, HSG.out⟩, H9.out.bel⟩
   ·have t0 : (x.d != -1) = true := by simpa using hd
    have t1 : (x.d == -1) = false := by simpa using hd
    by_cases hr : s.r = ⟨#[]⟩
    ·have t2 := tl_eq hr
     have t3 := te_eq hr
     clear hCls hC k0 hB hd hr
     refine wp_region_class Cls (by kernel_rfl) (by kernel_rfl) HCC.out ?_
     repeat (go_big_quiet_step (fail))
     refine wpQuiet_nil ?_
     rintro _ ⟨q9, rfl⟩
     have H9 := Lib.hid (HK.out q9)
     clear g0 g1 g2 g3 g4 g5
     go_wp2_with fail
     go_ret
     exact ⟨8, rfl, (fun h => by cases h), H9.out.bel⟩
    ·have t2 := tl_ne hr
     have t3 := te_ne hr
     have hR : 0 ≤ x.d ∧ x.d < f.vs.length := by
      rcases HC.out.2.2.1.d (by rcases HC.out.2.2.2 with e | e <;> rw [e] <;> rfl) with h1 | ⟨-, h1⟩
      ·exact h1
      ·exact absurd h1 hd
     obtain ⟨i3, z3⟩ := vd_at HC.out.2.1.1 HC.out.2.1.2 hR.1 hR.2
     obtain ⟨ws, hws⟩ : ∃ q, q = vty f x.d := ⟨_, rfl⟩
     rw [← hws] at z3
     have p3 : ∀ q : Wd Cls, q.val.cell? ⟨blk va, ofs va + x.d.toNat * 2 + 1, none⟩ = some (.string ws) := fun q => z3 q.val (k0 q).bel
     obtain ⟨fb, hfb⟩ : ∃ q, q = fitsB cs s.r ws := ⟨_, rfl⟩
     have f1 : ∀ q : Wd Cls, Calls Tryz.prog 139 #[.agg #[.slice ha cs.length hc], .string s.r, .string ws] q.val fun e w'' => e = .returned (.bool fb) ∧ ∃ r : Wd Cls, w'' = r.val := fun q => cls_bel (hB q) (by rw [hfb]; exact rFits_any cs _ s.r ws q.val (HC.out.1.below (k0 q).bel) hl)
     have F1 := Lib.hid f1
     have HFB := Lib.hid (And.intro hfb (And.intro hws hr))
     clear hCls hC k0 hB f1 hfb hws z3 hR hd hr
     cases fb
     ·refine wp_region_class Cls (by kernel_rfl) (by kernel_rfl) HCC.out ?_
      repeat (go_big_quiet_step ((go_at_call 139; exact F1.out _)))
      refine wpQuiet_nil ?_
      rintro _ ⟨q9, rfl⟩
      have H9 := Lib.hid (HK.out q9)
      clear g0 g1 g2 g3 g4 g5 p3
      go_wp2_with fail
      go_ret
      exact ⟨8, rfl, (fun h => by cases h), H9.out.bel⟩
     ·have HSG := Lib.hid (show Sig cs f x s from ⟨by rw [← HS.out.2.2.2, ← HX.out.2]; exact HNK.out, fun i hi => HF.out i (by rw [HX.out.2]; exact hi), fun _ => ⟨HFB.out.2.2, by rw [← HFB.out.2.1]; exact fitsB_ok HFB.out.1.symm⟩⟩)
      refine wp_region_class Cls (by kernel_rfl) (by kernel_rfl) HCC.out ?_
      repeat (go_big_quiet_step ((go_at_call 139; exact F1.out _)))
      refine wpQuiet_nil ?_
      rintro _ ⟨q9, rfl⟩
      have H9 := Lib.hid (HK.out q9)
      clear g0 g1 g2 g3 g4 g5 p3
      go_wp2_with fail
      go_ret
      exact ⟨0, rfl, fun _ => ⟨s, HS.out.2.2.1, HSG.out⟩, H9.out.bel⟩
end Go.Proofs.YtnklnklkblgnfaaGreatDoor
end
section
namespace Go.Proofs.YtnklnklkblgnfaaGreatDoor
open Go.RowKit Go.Dfl Go.Obs Go.Hir
open Go.Gra (gen_code gen_calls)
section
variable {cs : List Cl} {f : Fu} {x : Is}
theorem typd_ints (h : IntsOk cs f x) (hn : x.op ≠ 6 ∧ x.op ≠ 15 ∧ x.op ≠ 7 ∧ x.op ≠ 8 ∧ x.op ≠ 9 ∧ x.op ≠ 10) (hr : x.op = 13 → (x.a = -1 ↔ f.r = ⟨#[]⟩)) : Typd cs f x :=
 ⟨h.const, h.null, h.copy, h.bin, fun e => by omega, fun e => by omega, fun e => by omega, fun e => by omega, fun e => by omega, h.shift, h.throw, fun e => ⟨hr e, h.ret e⟩⟩
theorem typd_new (hn : x.op = 6 ∨ x.op = 15) (h : isC cs x.c ∧ Hir.Fits cs x.c (vty f x.d)) : Typd cs f x :=
 ⟨fun e => by omega, fun e => by omega, fun e => by omega, fun e => by omega, fun _ => h, fun e => by omega, fun e => by omega, fun e => by omega, fun e => by omega, fun e => by omega, fun e => by omega, fun e => by omega⟩
theorem typd_acc (hn : x.op = 7 ∨ x.op = 8) (h : isC cs (vty f x.a) ∧ ∃ c t, fieldP cs (vty f x.a) x.m = some (c, t) ∧ (x.op = 7 → Hir.Fits cs t (vty f x.d)) ∧ (x.op = 8 → Hir.Fits cs (vty f x.b) t)) : Typd cs f x := by
 obtain ⟨h1, c, t, h2, h3, h4⟩ := h
 exact ⟨fun e => by omega, fun e => by omega, fun e => by omega, fun e => by omega, fun e => by omega, fun e => ⟨h1, c, t, h2, h3 e⟩, fun e => ⟨h1, c, t, h2, h4 e⟩, fun e => by omega, fun e => by omega, fun e => by omega, fun e => by omega, fun e => by omega⟩
theorem typd_call (hn : x.op = 9 ∨ x.op = 10) {s : Sg} (h : CallPart cs f x s) (hs : Sig cs f x s) : Typd cs f x := by
 refine ⟨fun e => by omega, fun e => by omega, fun e => by omega, fun e => by omega, fun e => by omega, fun e => by omega, fun e => by omega, fun e => ?_, fun e => ?_, fun e => by omega, fun e => by omega, fun e => by omega⟩
 ·obtain ⟨h1, h2, c, h3, h4⟩ := h.1 e
  exact ⟨h1, h2, c, s, h3, h4, hs⟩
 ·obtain ⟨h1, h2⟩ := h.2 e
  exact ⟨s, h1, h2, hs⟩
end
def TypesR (cs : List Cl) (f : Fu) (x : Is) (W : World) (e : Ending) (W' : World) : Prop := ∃ n : Int, e = .returned (.int .i64 n) ∧ (n = 0 → Typd cs f x) ∧ Below W.heap.size W W'
set_option maxHeartbeats 6400000 in
set_option maxRecDepth 8000 in
theorem rTypes12_any (cs : List Cl) (hv : Value) (f : Fu) (vv cv : Value) (x : Is) (v : Value) (W : World) (h : InS vCl W hv cs) (hl : cs.length ≤ 1000000) (hvv : InS vVd W vv f.vs) (hcv : InS vIs W cv f.cd) (hxv : InS vI W v x.ar) (hr : Rng f x) :
  Calls Tryz.prog 115 #[.agg #[hv], fuV f vv cv, isV x v] W (TypesR cs f x W) := by
 obtain ⟨ha, hc, rfl⟩ := h.shape
 obtain ⟨va, vc, rfl⟩ := hvv.shape
 obtain ⟨ca, cc, rfl⟩ := hcv.shape
 obtain ⟨xa, xc, rfl⟩ := hxv.shape
 obtain ⟨n, hn⟩ : ∃ n, n = f.vs.length := ⟨_, rfl⟩
 obtain ⟨m, hm⟩ : ∃ n, n = f.cd.length := ⟨_, rfl⟩
 obtain ⟨k, hk⟩ : ∃ n, n = x.ar.length := ⟨_, rfl⟩
 rw [← hn] at hvv
 rw [← hm] at hcv
 rw [← hk] at hxv
 rw [← hn, ← hm, ← hk]
 have HE := Lib.hid ((((Env.refl W).alloc [.slice ha cs.length hc] 24).alloc (fuC f (.slice va n vc) (.slice ca m cc)) 95).alloc (isC' x (.slice xa k xc)) 79)
 have HC := Lib.hid (And.intro (And.intro h hxv) (And.intro (And.intro hvv hn) (And.intro hcv hr)))
 clear h hvv hcv hxv hr hn hm hk
 unfold fuV isV
 go_enter Tryz.func115, Tryz.ntmps115
 go_upto_region 1 with fail
 refine gen_code (fun Z => Env W [fkC (W.heap.size + 2) (isC' x (.slice xa k xc)), fkC (W.heap.size + 1) (fuC f (.slice va n vc) (.slice ca m cc)), fkC W.heap.size [.slice ha cs.length hc]] Z) (by have h := HE.out; rw [World.size_alloc, World.size_alloc] at h; exact h) ?_
 intro Z hZ
 obtain ⟨b, hb⟩ : ∃ b, b = W.heap.size := ⟨_, rfl⟩
 obtain ⟨bf, hbf⟩ : ∃ b, b = W.heap.size + 1 := ⟨_, rfl⟩
 obtain ⟨bx, hbx⟩ : ∃ b, b = W.heap.size + 2 := ⟨_, rfl⟩
 rw [← hbx, ← hbf, ← hb] at hZ ⊢
 have HZ := Lib.hid hZ
 clear hZ hb hbx hbf HE
 by_cases h1 : x.op = 6 ∨ x.op = 15
 ·have HO := Lib.hid h1
  have hR : 0 ≤ x.d ∧ x.d < f.vs.length := by
   rcases HC.out.2.2.2.d (by rcases h1 with e | e <;> rw [e] <;> rfl) with h1 | ⟨h2, -⟩
   ·exact h1
   ·have := HO.out; omega
  obtain ⟨i3, z3⟩ := vd_at HC.out.2.1.1 HC.out.2.1.2 hR.1 hR.2
  obtain ⟨t6, h6⟩ : ∃ q, (x.op == 6) = q := ⟨_, rfl⟩
  have h15 : t6 = false → (x.op == 15) = true := fun e => by
   rw [e] at h6
   have : ¬ x.op = 6 := by simpa using h6
   have : x.op = 15 := by omega
   rw [this]; rfl
  have HH := Lib.hid h15
  clear h1 hR h15
  have e0 := HZ.out.cell 0 rfl 0 rfl
  have e5 := HZ.out.cell 0 rfl 5 rfl
  have c0 := HZ.out.cell 2 rfl 0 rfl
  cases t6
  all_goals (
   first | (have h15 := HH.out rfl) | skip
   clear HH
   go_wp2_with fail
   refine (rIsClass_any cs _ x.c _ (HC.out.1.1.below HZ.out.bel)).mono ?_
   rintro e W2 ⟨rfl, b2⟩
   have H2 := Lib.hid (HZ.out.below b2)
   clear b2 e0 e5 c0
   by_cases ht : isC cs x.c
   ·rw [decide_eq_true ht]
    have HI := Lib.hid ht
    clear ht
    go_upto_region 6 with fail
    obtain ⟨Cls, hCls⟩ : ∃ Cls : World → Prop, ∀ Z', Cls Z' ↔ Env W [fkC bx (isC' x (.slice xa k xc)), fkC bf (fuC f (.slice va n vc) (.slice ca m cc)), fkC b [.slice ha cs.length hc]] Z' := ⟨_, fun _ => Iff.rfl⟩
    have hC : Cls W2.drew := (hCls _).2 H2.out.drew
    have k0 := fun q : Wd Cls => (hCls _).1 q.ok
    have hB : ∀ q : Wd Cls, ∀ Z', Below q.val.heap.size q.val Z' → Cls Z' := fun q Z' hb => (hCls _).2 ((k0 q).below hb)
    haveI hne : Nonempty (Wd Cls) := ⟨⟨_, hC⟩⟩
    have g0 : ∀ q : Wd Cls, q.val.cell? ⟨b, 0, none⟩ = some (.slice ha cs.length hc) := fun q => (k0 q).cell 2 rfl 0 rfl
    have g1 : ∀ q : Wd Cls, q.val.cell? ⟨bf, 4, none⟩ = some (.slice va n vc) := fun q => (k0 q).cell 1 rfl 4 rfl
    have g2 : ∀ q : Wd Cls, q.val.cell? ⟨bx, 5, none⟩ = some (.string x.c) := fun q => (k0 q).cell 0 rfl 5 rfl
    have g5 : ∀ q : Wd Cls, q.val.cell? ⟨bx, 1, none⟩ = some (.int .i64 x.d) := fun q => (k0 q).cell 0 rfl 1 rfl
    obtain ⟨ws, hws⟩ : ∃ q, q = vty f x.d := ⟨_, rfl⟩
    rw [← hws] at z3
    have p3 : ∀ q : Wd Cls, q.val.cell? ⟨blk va, ofs va + x.d.toNat * 2 + 1, none⟩ = some (.string ws) := fun q => z3 q.val (k0 q).bel
    obtain ⟨fb, hfb⟩ : ∃ q, q = fitsB cs x.c ws := ⟨_, rfl⟩
    have f1 : ∀ q : Wd Cls, Calls Tryz.prog 139 #[.agg #[.slice ha cs.length hc], .string x.c, .string ws] q.val fun e w'' => e = .returned (.bool fb) ∧ ∃ r : Wd Cls, w'' = r.val := fun q => cls_bel (hB q) (by rw [hfb]; exact rFits_any cs _ x.c ws q.val (HC.out.1.1.below (k0 q).bel) hl)
    have F1 := Lib.hid f1
    have HFB := Lib.hid (And.intro hfb hws)
    have HK := Lib.hid k0
    have HCC := Lib.hid hC
    clear hCls hC k0 hB f1 hfb hws z3
    cases fb
    all_goals (
     refine wp_region_class Cls (by kernel_rfl) (by kernel_rfl) HCC.out ?_
     repeat (go_big_quiet_step ((go_at_call 139; exact F1.out _)))
     refine wpQuiet_nil ?_
     rintro _ ⟨q9, rfl⟩
     have H9 := Lib.hid (HK.out q9)
     clear g0 g1 g2 g5 p3
     go_wp2_with fail
     go_ret
     first
     | exact ⟨8, rfl, (fun h => by cases h), H9.out.bel⟩
     | exact ⟨0, rfl, fun _ => typd_new HO.out ⟨HI.out, by rw [← HFB.out.2]; exact fitsB_ok HFB.out.1.symm⟩, H9.out.bel⟩)
   ·rw [decide_eq_false ht]
    clear ht
    go_wp2_with fail
    go_ret
    exact ⟨6, rfl, (fun h => by cases h), H2.out.bel⟩)
 have t6 : (x.op == 6) = false := by simpa using fun e => h1 (.inl e)
 have t15 : (x.op == 15) = false := by simpa using fun e => h1 (.inr e)
 by_cases h2 : x.op = 7 ∨ x.op = 8
 ·have HO := Lib.hid h2
  obtain ⟨t7, h7⟩ : ∃ q, (x.op == 7) = q := ⟨_, rfl⟩
  have h8 : t7 = false → (x.op == 8) = true := fun e => by
   rw [e] at h7
   have : ¬ x.op = 7 := by simpa using h7
   have : x.op = 8 := by omega
   rw [this]; rfl
  have HH := Lib.hid h8
  clear h1 h2 h8
  have c0 := HZ.out.cell 2 rfl 0 rfl
  have d0 := HZ.out.cell 1 rfl 0 rfl
  have d1 := HZ.out.cell 1 rfl 1 rfl
  have d2 := HZ.out.cell 1 rfl 2 rfl
  have d3 := HZ.out.cell 1 rfl 3 rfl
  have d4 := HZ.out.cell 1 rfl 4 rfl
  have d5 := HZ.out.cell 1 rfl 5 rfl
  have d6 := HZ.out.cell 1 rfl 6 rfl
  have e0 := HZ.out.cell 0 rfl 0 rfl
  have e1 := HZ.out.cell 0 rfl 1 rfl
  have e2 := HZ.out.cell 0 rfl 2 rfl
  have e3 := HZ.out.cell 0 rfl 3 rfl
  have e4 := HZ.out.cell 0 rfl 4 rfl
  have e5 := HZ.out.cell 0 rfl 5 rfl
  have e6 := HZ.out.cell 0 rfl 6 rfl
  have e7 := HZ.out.cell 0 rfl 7 rfl
  have e8 := HZ.out.cell 0 rfl 8 rfl
  have e9 := HZ.out.cell 0 rfl 9 rfl
  cases t7
  all_goals (
   first | (have h8 := HH.out rfl) | skip
   clear HH
   go_wp2_with fail
   refine (rAccess_any cs _ f _ _ x _ _ (HC.out.1.1.below HZ.out.bel) hl (HC.out.2.1.1.below HZ.out.bel) (HC.out.2.2.1.below HZ.out.bel) (HC.out.1.2.below HZ.out.bel) HC.out.2.2.2 HO.out).mono ?_
   rintro e W5 ⟨q, rfl, hq, b5⟩
   have H5 := Lib.hid (And.intro (HZ.out.below b5).bel hq)
   clear b5 hq
   go_wp2_with fail
   go_ret
   exact ⟨q, rfl, fun h => typd_acc HO.out (H5.out.2 h), H5.out.1⟩)
 have t7 : (x.op == 7) = false := by simpa using fun e => h2 (.inl e)
 have t8 : (x.op == 8) = false := by simpa using fun e => h2 (.inr e)
 by_cases h3 : x.op = 9 ∨ x.op = 10
 ·have HO := Lib.hid h3
  obtain ⟨t9, h9⟩ : ∃ q, (x.op == 9) = q := ⟨_, rfl⟩
  have h10 : t9 = false → (x.op == 10) = true := fun e => by
   rw [e] at h9
   have : ¬ x.op = 9 := by simpa using h9
   have : x.op = 10 := by omega
   rw [this]; rfl
  have HH := Lib.hid h10
  clear h1 h2 h3 h10
  have c0 := HZ.out.cell 2 rfl 0 rfl
  have d0 := HZ.out.cell 1 rfl 0 rfl
  have d1 := HZ.out.cell 1 rfl 1 rfl
  have d2 := HZ.out.cell 1 rfl 2 rfl
  have d3 := HZ.out.cell 1 rfl 3 rfl
  have d4 := HZ.out.cell 1 rfl 4 rfl
  have d5 := HZ.out.cell 1 rfl 5 rfl
  have d6 := HZ.out.cell 1 rfl 6 rfl
  have e0 := HZ.out.cell 0 rfl 0 rfl
  have e1 := HZ.out.cell 0 rfl 1 rfl
  have e2 := HZ.out.cell 0 rfl 2 rfl
  have e3 := HZ.out.cell 0 rfl 3 rfl
  have e4 := HZ.out.cell 0 rfl 4 rfl
  have e5 := HZ.out.cell 0 rfl 5 rfl
  have e6 := HZ.out.cell 0 rfl 6 rfl
  have e7 := HZ.out.cell 0 rfl 7 rfl
  have e8 := HZ.out.cell 0 rfl 8 rfl
  have e9 := HZ.out.cell 0 rfl 9 rfl
  cases t9
  all_goals (
   first | (have h10 := HH.out rfl) | skip
   clear HH
   go_wp2_with fail
   refine (rCheckCall_any cs _ f _ _ x _ _ (HC.out.1.1.below HZ.out.bel) hl (HC.out.2.1.1.below HZ.out.bel) (HC.out.2.2.1.below HZ.out.bel) (HC.out.1.2.below HZ.out.bel) HC.out.2.2.2 HO.out).mono ?_
   rintro e W5 ⟨q, rfl, hq, b5⟩
   have H5 := Lib.hid (And.intro (HZ.out.below b5).bel hq)
   clear b5 hq
   go_wp2_with fail
   go_ret
   exact ⟨q, rfl, fun h => by obtain ⟨s, h1, h2⟩ := H5.out.2 h; exact typd_call HO.out h1 h2, H5.out.1⟩)
 have t9 : (x.op == 9) = false := by simpa using fun e => h3 (.inl e)
 have t10 : (x.op == 10) = false := by simpa using fun e => h3 (.inr e)
 have HON := Lib.hid (show x.op ≠ 6 ∧ x.op ≠ 15 ∧ x.op ≠ 7 ∧ x.op ≠ 8 ∧ x.op ≠ 9 ∧ x.op ≠ 10 by omega)
 have HOP := Lib.hid (show x.op ≠ 9 ∧ x.op ≠ 10 by omega)
 clear h1 h2 h3
 have c0 := HZ.out.cell 2 rfl 0 rfl
 have d0 := HZ.out.cell 1 rfl 0 rfl
 have d1 := HZ.out.cell 1 rfl 1 rfl
 have d2 := HZ.out.cell 1 rfl 2 rfl
 have d3 := HZ.out.cell 1 rfl 3 rfl
 have d4 := HZ.out.cell 1 rfl 4 rfl
 have d5 := HZ.out.cell 1 rfl 5 rfl
 have d6 := HZ.out.cell 1 rfl 6 rfl
 have e0 := HZ.out.cell 0 rfl 0 rfl
 have e1 := HZ.out.cell 0 rfl 1 rfl
 have e2 := HZ.out.cell 0 rfl 2 rfl
 have e3 := HZ.out.cell 0 rfl 3 rfl
 have e4 := HZ.out.cell 0 rfl 4 rfl
 have e5 := HZ.out.cell 0 rfl 5 rfl
 have e6 := HZ.out.cell 0 rfl 6 rfl
 have e7 := HZ.out.cell 0 rfl 7 rfl
 have e8 := HZ.out.cell 0 rfl 8 rfl
 have e9 := HZ.out.cell 0 rfl 9 rfl
 by_cases h4 : x.op = 13
 ·have t13 : (x.op == 13) = true := by simp [h4]
  clear h4
  by_cases ha : x.a = -1
  ·have ta : (x.a == -1) = true := by simp [ha]
   by_cases hr : f.r = ⟨#[]⟩
   ·have tr := tl_eq hr
    have tr2 := te_eq hr
    have HRT := Lib.hid (show x.op = 13 → (x.a = -1 ↔ f.r = ⟨#[]⟩) from fun _ => ⟨fun _ => hr, fun _ => ha⟩)
    clear ha hr
    go_wp2_with fail
    refine (rInts_any cs _ f _ _ x _ _ (HC.out.1.1.below HZ.out.bel) hl (HC.out.2.1.1.below HZ.out.bel) (HC.out.2.2.1.below HZ.out.bel) (HC.out.1.2.below HZ.out.bel) HC.out.2.2.2 HOP.out).mono ?_
    rintro e W5 ⟨q, rfl, hq, b5⟩
    have H5 := Lib.hid (And.intro (HZ.out.below b5).bel hq)
    clear b5 hq
    cases q
    ·go_wp2_with fail
     go_ret
     exact ⟨8, rfl, (fun h => by cases h), H5.out.1⟩
    ·go_wp2_with fail
     go_ret
     exact ⟨0, rfl, fun _ => typd_ints (H5.out.2 (by first | rfl | trivial)) HON.out HRT.out, H5.out.1⟩
   ·have tr := tl_ne hr
    have tr2 := te_ne hr
    clear ha hr
    go_wp2_with fail
    go_ret
    exact ⟨9, rfl, (fun h => by cases h), HZ.out.bel⟩
  ·have ta : (x.a == -1) = false := by simpa using ha
   by_cases hr : f.r = ⟨#[]⟩
   ·have tr := tl_eq hr
    have tr2 := te_eq hr
    clear ha hr
    go_wp2_with fail
    go_ret
    exact ⟨9, rfl, (fun h => by cases h), HZ.out.bel⟩
   ·have tr := tl_ne hr
    have tr2 := te_ne hr
    have HRT := Lib.hid (show x.op = 13 → (x.a = -1 ↔ f.r = ⟨#[]⟩) from fun _ => ⟨fun h => absurd h ha, fun h => absurd h hr⟩)
    clear ha hr
    go_wp2_with fail
    refine (rInts_any cs _ f _ _ x _ _ (HC.out.1.1.below HZ.out.bel) hl (HC.out.2.1.1.below HZ.out.bel) (HC.out.2.2.1.below HZ.out.bel) (HC.out.1.2.below HZ.out.bel) HC.out.2.2.2 HOP.out).mono ?_
    rintro e W5 ⟨q, rfl, hq, b5⟩
    have H5 := Lib.hid (And.intro (HZ.out.below b5).bel hq)
    clear b5 hq
    cases q
    ·go_wp2_with fail
     go_ret
     exact ⟨8, rfl, (fun h => by cases h), H5.out.1⟩
    ·go_wp2_with fail
     go_ret
     exact ⟨0, rfl, fun _ => typd_ints (H5.out.2 (by first | rfl | trivial)) HON.out HRT.out, H5.out.1⟩
 ·have t13 : (x.op == 13) = false := by simpa using h4
  have HRT := Lib.hid (show x.op = 13 → (x.a = -1 ↔ f.r = ⟨#[]⟩) from fun h => absurd h h4)
  clear h4
  go_wp2_with fail
  refine (rInts_any cs _ f _ _ x _ _ (HC.out.1.1.below HZ.out.bel) hl (HC.out.2.1.1.below HZ.out.bel) (HC.out.2.2.1.below HZ.out.bel) (HC.out.1.2.below HZ.out.bel) HC.out.2.2.2 HOP.out).mono ?_
  rintro e W5 ⟨q, rfl, hq, b5⟩
  have H5 := Lib.hid (And.intro (HZ.out.below b5).bel hq)
  clear b5 hq
  cases q
  ·go_wp2_with fail
   go_ret
   exact ⟨8, rfl, (fun h => by cases h), H5.out.1⟩
  ·go_wp2_with fail
   go_ret
   exact ⟨0, rfl, fun _ => typd_ints (H5.out.2 (by first | rfl | trivial)) HON.out HRT.out, H5.out.1⟩
end Go.Proofs.YtnklnklkblgnfaaGreatDoor
end
section
namespace Go.Dfl
open Go.RowKit
section
variable {P : Program} {ops : Array Oper} {Q : Exit → Act → World → Prop}
theorem thenQ_panic {J : Act → World → Prop} : ∀ c a w, ThenQ J Q (.panic c) a w → Q (.panic c) a w := fun _ _ _ h => h.elim
theorem thenQ_lets {J : Act → World → Prop} : LetsOut (ThenQ J Q) → LetsOut Q := fun ⟨a, w, h⟩ => ⟨a, w, h⟩
theorem wpList_cut (J : Act → World → Prop) : ∀ (n : Nat) (l : List Oper) {a : Act} {w : World}, wpList P ops (ThenQ J Q) (l.take n) a w → (∀ a' w', J a' w' → wpList P ops Q (l.drop n) a' w') → wpList P ops Q l a w
 | 0, l, a, w, h, h2 => h2 a w h
 | n + 1, [], a, w, h, h2 => h2 a w h
 | n + 1, o :: l, a, w, h, h2 => by
   rw [List.take_succ_cons] at h
   unfold wpList at h ⊢
   split
   ·rename_i hw
    rw [if_pos hw] at h
    rcases h with h | ⟨h, h3⟩
    ·exact .inl (Oper.wp_monoQ thenQ_panic thenQ_lets (Oper.wp_mono (fun a' w' h' => wpList_cut J n l h' h2) h))
    ·exact .inr ⟨h, thenQ_lets h3⟩
   ·rename_i hw
    rw [if_neg hw] at h
    exact wpList_cut J n l h h2
end
end Go.Dfl
namespace Go.Proofs.YtnklnklkblgnfaaGreatDoor
open Go.RowKit Go.Dfl Go.Obs Go.Hir
open Go.Gra (gen_code gen_calls)
def UnJ12 (x : Is) (va : Option Addr) (an vc b : Nat) (W : World) (a' : Act) (w' : World) : Prop := ∃ u4 u5 u6 u7 u8 u9 u10 u11 u13 u14 u15 u16 u17 u18 u19 u20 u21 u22 u23 u24 u25 u26 u27 u28 u29 u30 u31 u32 u33 u34 u35 u36 u37 u38 u39 u40 u41 u42 u43 u44 u45 u46 u47 u48 u49 u50 u51 u52 u53 u54 u55 u56 u57 u58 u59 u60 u61 u62 u63 u64 u65 u66 u67 u68 u69 u70 u71 u72 u73 u74 u75 u76 q, a' = ({ tmps := #[isV x (.slice va an vc), .pointer (some ⟨b, 0, none⟩), .bool false, .int .i64 x.op, u4, u5, u6, u7, u8, u9, u10, u11, .bool q, u13, u14, u15, u16, u17, u18, u19, u20, u21, u22, u23, u24, u25, u26, u27, u28, u29, u30, u31, u32, u33, u34, u35, u36, u37, u38, u39, u40, u41, u42, u43, u44, u45, u46, u47, u48, u49, u50, u51, u52, u53, u54, u55, u56, u57, u58, u59, u60, u61, u62, u63, u64, u65, u66, u67, u68, u69, u70, u71, u72, u73, u74, u75, u76], defers := [] } : Act) ∧ Env W [fkC b (isC' x (.slice va an vc))] w'
def UnJ21 (x : Is) (va : Option Addr) (an vc b : Nat) (W : World) (a' : Act) (w' : World) : Prop := ∃ u4 u5 u6 u7 u8 u9 u10 u11 u12 u13 u14 u15 u16 u17 u18 u19 u20 u22 u23 u24 u25 u26 u27 u28 u29 u30 u31 u32 u33 u34 u35 u36 u37 u38 u39 u40 u41 u42 u43 u44 u45 u46 u47 u48 u49 u50 u51 u52 u53 u54 u55 u56 u57 u58 u59 u60 u61 u62 u63 u64 u65 u66 u67 u68 u69 u70 u71 u72 u73 u74 u75 u76 q, a' = ({ tmps := #[isV x (.slice va an vc), .pointer (some ⟨b, 0, none⟩), .bool false, .int .i64 x.op, u4, u5, u6, u7, u8, u9, u10, u11, u12, u13, u14, u15, u16, u17, u18, u19, u20, .bool q, u22, u23, u24, u25, u26, u27, u28, u29, u30, u31, u32, u33, u34, u35, u36, u37, u38, u39, u40, u41, u42, u43, u44, u45, u46, u47, u48, u49, u50, u51, u52, u53, u54, u55, u56, u57, u58, u59, u60, u61, u62, u63, u64, u65, u66, u67, u68, u69, u70, u71, u72, u73, u74, u75, u76], defers := [] } : Act) ∧ Env W [fkC b (isC' x (.slice va an vc))] w'
def UnJ30 (x : Is) (va : Option Addr) (an vc b : Nat) (W : World) (a' : Act) (w' : World) : Prop := ∃ u4 u5 u6 u7 u8 u9 u10 u11 u12 u13 u14 u15 u16 u17 u18 u19 u20 u21 u22 u23 u24 u25 u26 u27 u28 u29 u31 u32 u33 u34 u35 u36 u37 u38 u39 u40 u41 u42 u43 u44 u45 u46 u47 u48 u49 u50 u51 u52 u53 u54 u55 u56 u57 u58 u59 u60 u61 u62 u63 u64 u65 u66 u67 u68 u69 u70 u71 u72 u73 u74 u75 u76 q, a' = ({ tmps := #[isV x (.slice va an vc), .pointer (some ⟨b, 0, none⟩), .bool false, .int .i64 x.op, u4, u5, u6, u7, u8, u9, u10, u11, u12, u13, u14, u15, u16, u17, u18, u19, u20, u21, u22, u23, u24, u25, u26, u27, u28, u29, .bool q, u31, u32, u33, u34, u35, u36, u37, u38, u39, u40, u41, u42, u43, u44, u45, u46, u47, u48, u49, u50, u51, u52, u53, u54, u55, u56, u57, u58, u59, u60, u61, u62, u63, u64, u65, u66, u67, u68, u69, u70, u71, u72, u73, u74, u75, u76], defers := [] } : Act) ∧ Env W [fkC b (isC' x (.slice va an vc))] w'
def UnJ39 (x : Is) (va : Option Addr) (an vc b : Nat) (W : World) (a' : Act) (w' : World) : Prop := ∃ u4 u5 u6 u7 u8 u9 u10 u11 u12 u13 u14 u15 u16 u17 u18 u19 u20 u21 u22 u23 u24 u25 u26 u27 u28 u29 u30 u31 u32 u33 u34 u35 u36 u37 u38 u40 u41 u42 u43 u44 u45 u46 u47 u48 u49 u50 u51 u52 u53 u54 u55 u56 u57 u58 u59 u60 u61 u62 u63 u64 u65 u66 u67 u68 u69 u70 u71 u72 u73 u74 u75 u76 q, a' = ({ tmps := #[isV x (.slice va an vc), .pointer (some ⟨b, 0, none⟩), .bool false, .int .i64 x.op, u4, u5, u6, u7, u8, u9, u10, u11, u12, u13, u14, u15, u16, u17, u18, u19, u20, u21, u22, u23, u24, u25, u26, u27, u28, u29, u30, u31, u32, u33, u34, u35, u36, u37, u38, .bool q, u40, u41, u42, u43, u44, u45, u46, u47, u48, u49, u50, u51, u52, u53, u54, u55, u56, u57, u58, u59, u60, u61, u62, u63, u64, u65, u66, u67, u68, u69, u70, u71, u72, u73, u74, u75, u76], defers := [] } : Act) ∧ Env W [fkC b (isC' x (.slice va an vc))] w'
def UnJ48 (x : Is) (va : Option Addr) (an vc b : Nat) (W : World) (a' : Act) (w' : World) : Prop := ∃ u4 u5 u6 u7 u8 u9 u10 u11 u12 u13 u14 u15 u16 u17 u18 u19 u20 u21 u22 u23 u24 u25 u26 u27 u28 u29 u30 u31 u32 u33 u34 u35 u36 u37 u38 u39 u40 u41 u42 u43 u44 u45 u46 u47 u49 u50 u51 u52 u53 u54 u55 u56 u57 u58 u59 u60 u61 u62 u63 u64 u65 u66 u67 u68 u69 u70 u71 u72 u73 u74 u75 u76 q, a' = ({ tmps := #[isV x (.slice va an vc), .pointer (some ⟨b, 0, none⟩), .bool false, .int .i64 x.op, u4, u5, u6, u7, u8, u9, u10, u11, u12, u13, u14, u15, u16, u17, u18, u19, u20, u21, u22, u23, u24, u25, u26, u27, u28, u29, u30, u31, u32, u33, u34, u35, u36, u37, u38, u39, u40, u41, u42, u43, u44, u45, u46, u47, .bool q, u49, u50, u51, u52, u53, u54, u55, u56, u57, u58, u59, u60, u61, u62, u63, u64, u65, u66, u67, u68, u69, u70, u71, u72, u73, u74, u75, u76], defers := [] } : Act) ∧ Env W [fkC b (isC' x (.slice va an vc))] w'
def UnJ57 (x : Is) (va : Option Addr) (an vc b : Nat) (W : World) (a' : Act) (w' : World) : Prop := ∃ u4 u5 u6 u7 u8 u9 u10 u11 u12 u13 u14 u15 u16 u17 u18 u19 u20 u21 u22 u23 u24 u25 u26 u27 u28 u29 u30 u31 u32 u33 u34 u35 u36 u37 u38 u39 u40 u41 u42 u43 u44 u45 u46 u47 u48 u49 u50 u51 u52 u53 u54 u55 u56 u58 u59 u60 u61 u62 u63 u64 u65 u66 u67 u68 u69 u70 u71 u72 u73 u74 u75 u76 q, a' = ({ tmps := #[isV x (.slice va an vc), .pointer (some ⟨b, 0, none⟩), .bool false, .int .i64 x.op, u4, u5, u6, u7, u8, u9, u10, u11, u12, u13, u14, u15, u16, u17, u18, u19, u20, u21, u22, u23, u24, u25, u26, u27, u28, u29, u30, u31, u32, u33, u34, u35, u36, u37, u38, u39, u40, u41, u42, u43, u44, u45, u46, u47, u48, u49, u50, u51, u52, u53, u54, u55, u56, .bool q, u58, u59, u60, u61, u62, u63, u64, u65, u66, u67, u68, u69, u70, u71, u72, u73, u74, u75, u76], defers := [] } : Act) ∧ Env W [fkC b (isC' x (.slice va an vc))] w'
def UnJ67 (x : Is) (va : Option Addr) (an vc b : Nat) (W : World) (a' : Act) (w' : World) : Prop := ∃ u4 u5 u6 u7 u8 u9 u10 u11 u12 u13 u14 u15 u16 u17 u18 u19 u20 u21 u22 u23 u24 u25 u26 u27 u28 u29 u30 u31 u32 u33 u34 u35 u36 u37 u38 u39 u40 u41 u42 u43 u44 u45 u46 u47 u48 u49 u50 u51 u52 u53 u54 u55 u56 u57 u58 u59 u60 u61 u62 u63 u64 u65 u66 u68 u69 u70 u71 u72 u73 u74 u75 u76 q, a' = ({ tmps := #[isV x (.slice va an vc), .pointer (some ⟨b, 0, none⟩), .bool false, .int .i64 x.op, u4, u5, u6, u7, u8, u9, u10, u11, u12, u13, u14, u15, u16, u17, u18, u19, u20, u21, u22, u23, u24, u25, u26, u27, u28, u29, u30, u31, u32, u33, u34, u35, u36, u37, u38, u39, u40, u41, u42, u43, u44, u45, u46, u47, u48, u49, u50, u51, u52, u53, u54, u55, u56, u57, u58, u59, u60, u61, u62, u63, u64, u65, u66, .bool q, u68, u69, u70, u71, u72, u73, u74, u75, u76], defers := [] } : Act) ∧ Env W [fkC b (isC' x (.slice va an vc))] w'
set_option maxHeartbeats 6400000 in
set_option maxRecDepth 4000 in
theorem rUnused_any (x : Is) (v : Value) (W : World) (h : InS vI W v x.ar) : Calls Tryz.prog 112 #[isV x v] W (SomeB W) := by
 obtain ⟨va, vc, rfl⟩ := h.shape
 obtain ⟨an, han⟩ : ∃ an, an = x.ar.length := ⟨_, rfl⟩
 rw [← han]
 clear han h
 have HE := Lib.hid ((Env.refl W).alloc (isC' x (.slice va an vc)) 79)
 unfold isV
 go_enter Tryz.func112, Tryz.ntmps112
 go_upto_region 1 with fail
 refine gen_code (fun Z => Env W [fkC W.heap.size (isC' x (.slice va an vc))] Z) HE.out ?_
 intro Z hZ
 obtain ⟨b, hb⟩ : ∃ b, b = W.heap.size := ⟨_, rfl⟩
 rw [← hb] at hZ ⊢
 have HP := Lib.hid hZ
 have d0 := hZ.cell 0 rfl 0 rfl
 clear hZ hb HE
 go_upto_region 2 with fail
 clear d0
 refine wp_region_lit ?_
 simp only [List.append_eq, List.cons_append, List.nil_append]
 refine wpList_cut (UnJ12 x va an vc b W) 7 _ ?_ ?_
 ·simp only [List.take_succ_cons, List.take_zero]
  go_wp2_with fail
  refine (rHas_any x.op 100 _).mono ?_
  rintro e W1 ⟨rfl, b1⟩
  have HQ := Lib.hid (HP.out.below b1)
  have e0 := HQ.out.cell 0 rfl 1 rfl
  obtain ⟨hb1, hhb⟩ : ∃ q, q = hasB x.op 100 := ⟨_, rfl⟩
  rw [← hhb]
  clear b1 hhb
  cases hb1
  ·go_wp2_with fail
   all_goals (refine thenQ_mk ?_; exact ⟨_, _, _, _, _, _, _, _, _, _, _, _, _, _, _, _, _, _, _, _, _, _, _, _, _, _, _, _, _, _, _, _, _, _, _, _, _, _, _, _, _, _, _, _, _, _, _, _, _, _, _, _, _, _, _, _, _, _, _, _, _, _, _, _, _, _, _, _, _, _, _, _, _, rfl, HQ.out⟩)
  ·go_wp2_with fail
   all_goals (refine thenQ_mk ?_; exact ⟨_, _, _, _, _, _, _, _, _, _, _, _, _, _, _, _, _, _, _, _, _, _, _, _, _, _, _, _, _, _, _, _, _, _, _, _, _, _, _, _, _, _, _, _, _, _, _, _, _, _, _, _, _, _, _, _, _, _, _, _, _, _, _, _, _, _, _, _, _, _, _, _, _, rfl, HQ.out⟩)
 clear HP
 rintro a' W2 ⟨u4, u5, u6, u7, u8, u9, u10, u11, u13, u14, u15, u16, u17, u18, u19, u20, u21, u22, u23, u24, u25, u26, u27, u28, u29, u30, u31, u32, u33, u34, u35, u36, u37, u38, u39, u40, u41, u42, u43, u44, u45, u46, u47, u48, u49, u50, u51, u52, u53, u54, u55, u56, u57, u58, u59, u60, u61, u62, u63, u64, u65, u66, u67, u68, u69, u70, u71, u72, u73, u74, u75, u76, q, rfl, hP⟩
 have HP := Lib.hid hP
 clear hP
 simp only [List.drop_succ_cons, List.drop_zero]
 refine wpList_cut (UnJ21 x va an vc b W) 9 _ ?_ ?_
 ·simp only [List.take_succ_cons, List.take_zero]
  cases q
  ·have HQ := HP
   go_wp2_with fail
   all_goals (refine thenQ_mk ?_; exact ⟨_, _, _, _, _, _, _, _, _, _, _, _, _, _, _, _, _, _, _, _, _, _, _, _, _, _, _, _, _, _, _, _, _, _, _, _, _, _, _, _, _, _, _, _, _, _, _, _, _, _, _, _, _, _, _, _, _, _, _, _, _, _, _, _, _, _, _, _, _, _, _, _, _, rfl, HQ.out⟩)
  ·go_wp2_with fail
   refine (rHas_any x.op 97 _).mono ?_
   rintro e W1 ⟨rfl, b1⟩
   have HQ := Lib.hid (HP.out.below b1)
   have e0 := HQ.out.cell 0 rfl 2 rfl
   obtain ⟨hb1, hhb⟩ : ∃ q, q = hasB x.op 97 := ⟨_, rfl⟩
   rw [← hhb]
   clear b1 hhb
   cases hb1
   ·go_wp2_with fail
    all_goals (refine thenQ_mk ?_; exact ⟨_, _, _, _, _, _, _, _, _, _, _, _, _, _, _, _, _, _, _, _, _, _, _, _, _, _, _, _, _, _, _, _, _, _, _, _, _, _, _, _, _, _, _, _, _, _, _, _, _, _, _, _, _, _, _, _, _, _, _, _, _, _, _, _, _, _, _, _, _, _, _, _, _, rfl, HQ.out⟩)
   ·go_wp2_with fail
    all_goals (refine thenQ_mk ?_; exact ⟨_, _, _, _, _, _, _, _, _, _, _, _, _, _, _, _, _, _, _, _, _, _, _, _, _, _, _, _, _, _, _, _, _, _, _, _, _, _, _, _, _, _, _, _, _, _, _, _, _, _, _, _, _, _, _, _, _, _, _, _, _, _, _, _, _, _, _, _, _, _, _, _, _, rfl, HQ.out⟩)
 clear HP
 rintro a' W2 ⟨u4, u5, u6, u7, u8, u9, u10, u11, u12, u13, u14, u15, u16, u17, u18, u19, u20, u22, u23, u24, u25, u26, u27, u28, u29, u30, u31, u32, u33, u34, u35, u36, u37, u38, u39, u40, u41, u42, u43, u44, u45, u46, u47, u48, u49, u50, u51, u52, u53, u54, u55, u56, u57, u58, u59, u60, u61, u62, u63, u64, u65, u66, u67, u68, u69, u70, u71, u72, u73, u74, u75, u76, q, rfl, hP⟩
 have HP := Lib.hid hP
 clear hP
 simp only [List.drop_succ_cons, List.drop_zero]
 refine wpList_cut (UnJ30 x va an vc b W) 9 _ ?_ ?_
 ·simp only [List.take_succ_cons, List.take_zero]
  cases q
  ·have HQ := HP
   go_wp2_with fail
   all_goals (refine thenQ_mk ?_; exact ⟨_, _, _, _, _, _, _, _, _, _, _, _, _, _, _, _, _, _, _, _, _, _, _, _, _, _, _, _, _, _, _, _, _, _, _, _, _, _, _, _, _, _, _, _, _, _, _, _, _, _, _, _, _, _, _, _, _, _, _, _, _, _, _, _, _, _, _, _, _, _, _, _, _, rfl, HQ.out⟩)
  ·go_wp2_with fail
   refine (rHas_any x.op 98 _).mono ?_
   rintro e W1 ⟨rfl, b1⟩
   have HQ := Lib.hid (HP.out.below b1)
   have e0 := HQ.out.cell 0 rfl 3 rfl
   obtain ⟨hb1, hhb⟩ : ∃ q, q = hasB x.op 98 := ⟨_, rfl⟩
   rw [← hhb]
   clear b1 hhb
   cases hb1
   ·go_wp2_with fail
    all_goals (refine thenQ_mk ?_; exact ⟨_, _, _, _, _, _, _, _, _, _, _, _, _, _, _, _, _, _, _, _, _, _, _, _, _, _, _, _, _, _, _, _, _, _, _, _, _, _, _, _, _, _, _, _, _, _, _, _, _, _, _, _, _, _, _, _, _, _, _, _, _, _, _, _, _, _, _, _, _, _, _, _, _, rfl, HQ.out⟩)
   ·go_wp2_with fail
    all_goals (refine thenQ_mk ?_; exact ⟨_, _, _, _, _, _, _, _, _, _, _, _, _, _, _, _, _, _, _, _, _, _, _, _, _, _, _, _, _, _, _, _, _, _, _, _, _, _, _, _, _, _, _, _, _, _, _, _, _, _, _, _, _, _, _, _, _, _, _, _, _, _, _, _, _, _, _, _, _, _, _, _, _, rfl, HQ.out⟩)
 clear HP
 rintro a' W2 ⟨u4, u5, u6, u7, u8, u9, u10, u11, u12, u13, u14, u15, u16, u17, u18, u19, u20, u21, u22, u23, u24, u25, u26, u27, u28, u29, u31, u32, u33, u34, u35, u36, u37, u38, u39, u40, u41, u42, u43, u44, u45, u46, u47, u48, u49, u50, u51, u52, u53, u54, u55, u56, u57, u58, u59, u60, u61, u62, u63, u64, u65, u66, u67, u68, u69, u70, u71, u72, u73, u74, u75, u76, q, rfl, hP⟩
 have HP := Lib.hid hP
 clear hP
 simp only [List.drop_succ_cons, List.drop_zero]
 refine wpList_cut (UnJ39 x va an vc b W) 9 _ ?_ ?_
 ·simp only [List.take_succ_cons, List.take_zero]
  cases q
  ·have HQ := HP
   go_wp2_with fail
   all_goals (refine thenQ_mk ?_; exact ⟨_, _, _, _, _, _, _, _, _, _, _, _, _, _, _, _, _, _, _, _, _, _, _, _, _, _, _, _, _, _, _, _, _, _, _, _, _, _, _, _, _, _, _, _, _, _, _, _, _, _, _, _, _, _, _, _, _, _, _, _, _, _, _, _, _, _, _, _, _, _, _, _, _, rfl, HQ.out⟩)
  ·go_wp2_with fail
   refine (rHas_any x.op 110 _).mono ?_
   rintro e W1 ⟨rfl, b1⟩
   have HQ := Lib.hid (HP.out.below b1)
   have e0 := HQ.out.cell 0 rfl 4 rfl
   obtain ⟨hb1, hhb⟩ : ∃ q, q = hasB x.op 110 := ⟨_, rfl⟩
   rw [← hhb]
   clear b1 hhb
   cases hb1
   ·go_wp2_with fail
    all_goals (refine thenQ_mk ?_; exact ⟨_, _, _, _, _, _, _, _, _, _, _, _, _, _, _, _, _, _, _, _, _, _, _, _, _, _, _, _, _, _, _, _, _, _, _, _, _, _, _, _, _, _, _, _, _, _, _, _, _, _, _, _, _, _, _, _, _, _, _, _, _, _, _, _, _, _, _, _, _, _, _, _, _, rfl, HQ.out⟩)
   ·go_wp2_with fail
    all_goals (refine thenQ_mk ?_; exact ⟨_, _, _, _, _, _, _, _, _, _, _, _, _, _, _, _, _, _, _, _, _, _, _, _, _, _, _, _, _, _, _, _, _, _, _, _, _, _, _, _, _, _, _, _, _, _, _, _, _, _, _, _, _, _, _, _, _, _, _, _, _, _, _, _, _, _, _, _, _, _, _, _, _, rfl, HQ.out⟩)
 clear HP
 rintro a' W2 ⟨u4, u5, u6, u7, u8, u9, u10, u11, u12, u13, u14, u15, u16, u17, u18, u19, u20, u21, u22, u23, u24, u25, u26, u27, u28, u29, u30, u31, u32, u33, u34, u35, u36, u37, u38, u40, u41, u42, u43, u44, u45, u46, u47, u48, u49, u50, u51, u52, u53, u54, u55, u56, u57, u58, u59, u60, u61, u62, u63, u64, u65, u66, u67, u68, u69, u70, u71, u72, u73, u74, u75, u76, q, rfl, hP⟩
 have HP := Lib.hid hP
 clear hP
 simp only [List.drop_succ_cons, List.drop_zero]
 refine wpList_cut (UnJ48 x va an vc b W) 9 _ ?_ ?_
 ·simp only [List.take_succ_cons, List.take_zero]
  cases q
  ·have HQ := HP
   go_wp2_with fail
   all_goals (refine thenQ_mk ?_; exact ⟨_, _, _, _, _, _, _, _, _, _, _, _, _, _, _, _, _, _, _, _, _, _, _, _, _, _, _, _, _, _, _, _, _, _, _, _, _, _, _, _, _, _, _, _, _, _, _, _, _, _, _, _, _, _, _, _, _, _, _, _, _, _, _, _, _, _, _, _, _, _, _, _, _, rfl, HQ.out⟩)
  ·go_wp2_with fail
   refine (rHas_any x.op 99 _).mono ?_
   rintro e W1 ⟨rfl, b1⟩
   have HQ := Lib.hid (HP.out.below b1)
   have e0 := HQ.out.cell 0 rfl 5 rfl
   obtain ⟨hb1, hhb⟩ : ∃ q, q = hasB x.op 99 := ⟨_, rfl⟩
   rw [← hhb]
   clear b1 hhb
   cases hb1
   ·go_wp2_with fail
    all_goals (refine thenQ_mk ?_; exact ⟨_, _, _, _, _, _, _, _, _, _, _, _, _, _, _, _, _, _, _, _, _, _, _, _, _, _, _, _, _, _, _, _, _, _, _, _, _, _, _, _, _, _, _, _, _, _, _, _, _, _, _, _, _, _, _, _, _, _, _, _, _, _, _, _, _, _, _, _, _, _, _, _, _, rfl, HQ.out⟩)
   ·go_wp2_with fail
    all_goals (refine thenQ_mk ?_; exact ⟨_, _, _, _, _, _, _, _, _, _, _, _, _, _, _, _, _, _, _, _, _, _, _, _, _, _, _, _, _, _, _, _, _, _, _, _, _, _, _, _, _, _, _, _, _, _, _, _, _, _, _, _, _, _, _, _, _, _, _, _, _, _, _, _, _, _, _, _, _, _, _, _, _, rfl, HQ.out⟩)
 clear HP
 rintro a' W2 ⟨u4, u5, u6, u7, u8, u9, u10, u11, u12, u13, u14, u15, u16, u17, u18, u19, u20, u21, u22, u23, u24, u25, u26, u27, u28, u29, u30, u31, u32, u33, u34, u35, u36, u37, u38, u39, u40, u41, u42, u43, u44, u45, u46, u47, u49, u50, u51, u52, u53, u54, u55, u56, u57, u58, u59, u60, u61, u62, u63, u64, u65, u66, u67, u68, u69, u70, u71, u72, u73, u74, u75, u76, q, rfl, hP⟩
 have HP := Lib.hid hP
 clear hP
 simp only [List.drop_succ_cons, List.drop_zero]
 refine wpList_cut (UnJ57 x va an vc b W) 9 _ ?_ ?_
 ·simp only [List.take_succ_cons, List.take_zero]
  cases q
  ·have HQ := HP
   go_wp2_with fail
   all_goals (refine thenQ_mk ?_; exact ⟨_, _, _, _, _, _, _, _, _, _, _, _, _, _, _, _, _, _, _, _, _, _, _, _, _, _, _, _, _, _, _, _, _, _, _, _, _, _, _, _, _, _, _, _, _, _, _, _, _, _, _, _, _, _, _, _, _, _, _, _, _, _, _, _, _, _, _, _, _, _, _, _, _, rfl, HQ.out⟩)
  ·go_wp2_with fail
   refine (rHas_any x.op 109 _).mono ?_
   rintro e W1 ⟨rfl, b1⟩
   have HQ := Lib.hid (HP.out.below b1)
   have e0 := HQ.out.cell 0 rfl 6 rfl
   obtain ⟨hb1, hhb⟩ : ∃ q, q = hasB x.op 109 := ⟨_, rfl⟩
   rw [← hhb]
   clear b1 hhb
   cases hb1
   ·go_wp2_with fail
    all_goals (refine thenQ_mk ?_; exact ⟨_, _, _, _, _, _, _, _, _, _, _, _, _, _, _, _, _, _, _, _, _, _, _, _, _, _, _, _, _, _, _, _, _, _, _, _, _, _, _, _, _, _, _, _, _, _, _, _, _, _, _, _, _, _, _, _, _, _, _, _, _, _, _, _, _, _, _, _, _, _, _, _, _, rfl, HQ.out⟩)
   ·go_wp2_with fail
    all_goals (refine thenQ_mk ?_; exact ⟨_, _, _, _, _, _, _, _, _, _, _, _, _, _, _, _, _, _, _, _, _, _, _, _, _, _, _, _, _, _, _, _, _, _, _, _, _, _, _, _, _, _, _, _, _, _, _, _, _, _, _, _, _, _, _, _, _, _, _, _, _, _, _, _, _, _, _, _, _, _, _, _, _, rfl, HQ.out⟩)
 clear HP
 rintro a' W2 ⟨u4, u5, u6, u7, u8, u9, u10, u11, u12, u13, u14, u15, u16, u17, u18, u19, u20, u21, u22, u23, u24, u25, u26, u27, u28, u29, u30, u31, u32, u33, u34, u35, u36, u37, u38, u39, u40, u41, u42, u43, u44, u45, u46, u47, u48, u49, u50, u51, u52, u53, u54, u55, u56, u58, u59, u60, u61, u62, u63, u64, u65, u66, u67, u68, u69, u70, u71, u72, u73, u74, u75, u76, q, rfl, hP⟩
 have HP := Lib.hid hP
 clear hP
 simp only [List.drop_succ_cons, List.drop_zero]
 refine wpList_cut (UnJ67 x va an vc b W) 10 _ ?_ ?_
 ·simp only [List.take_succ_cons, List.take_zero]
  cases q
  ·have HQ := HP
   go_wp2_with fail
   all_goals (refine thenQ_mk ?_; exact ⟨_, _, _, _, _, _, _, _, _, _, _, _, _, _, _, _, _, _, _, _, _, _, _, _, _, _, _, _, _, _, _, _, _, _, _, _, _, _, _, _, _, _, _, _, _, _, _, _, _, _, _, _, _, _, _, _, _, _, _, _, _, _, _, _, _, _, _, _, _, _, _, _, _, rfl, HQ.out⟩)
  ·go_wp2_with fail
   refine (rHas_any x.op 108 _).mono ?_
   rintro e W1 ⟨rfl, b1⟩
   have HQ := Lib.hid (HP.out.below b1)
   have e0 := HQ.out.cell 0 rfl 7 rfl
   obtain ⟨hb1, hhb⟩ : ∃ q, q = hasB x.op 108 := ⟨_, rfl⟩
   rw [← hhb]
   clear b1 hhb
   cases hb1
   ·go_wp2_with fail
    all_goals (refine thenQ_mk ?_; exact ⟨_, _, _, _, _, _, _, _, _, _, _, _, _, _, _, _, _, _, _, _, _, _, _, _, _, _, _, _, _, _, _, _, _, _, _, _, _, _, _, _, _, _, _, _, _, _, _, _, _, _, _, _, _, _, _, _, _, _, _, _, _, _, _, _, _, _, _, _, _, _, _, _, _, rfl, HQ.out⟩)
   ·go_wp2_with fail
    all_goals (refine thenQ_mk ?_; exact ⟨_, _, _, _, _, _, _, _, _, _, _, _, _, _, _, _, _, _, _, _, _, _, _, _, _, _, _, _, _, _, _, _, _, _, _, _, _, _, _, _, _, _, _, _, _, _, _, _, _, _, _, _, _, _, _, _, _, _, _, _, _, _, _, _, _, _, _, _, _, _, _, _, _, rfl, HQ.out⟩)
 clear HP
 rintro a' W2 ⟨u4, u5, u6, u7, u8, u9, u10, u11, u12, u13, u14, u15, u16, u17, u18, u19, u20, u21, u22, u23, u24, u25, u26, u27, u28, u29, u30, u31, u32, u33, u34, u35, u36, u37, u38, u39, u40, u41, u42, u43, u44, u45, u46, u47, u48, u49, u50, u51, u52, u53, u54, u55, u56, u57, u58, u59, u60, u61, u62, u63, u64, u65, u66, u68, u69, u70, u71, u72, u73, u74, u75, u76, q, rfl, hP⟩
 have HP := Lib.hid hP
 clear hP
 simp only [List.drop_succ_cons, List.drop_zero]
 cases q
 ·have HQ := HP
  go_wp2_with fail
  all_goals (go_ret; exact ⟨_, rfl, HQ.out.bel⟩)
 ·go_wp2_with fail
  refine (rHas_any x.op 103 _).mono ?_
  rintro e W1 ⟨rfl, b1⟩
  have HQ := Lib.hid (HP.out.below b1)
  have e0 := HQ.out.cell 0 rfl 8 rfl
  obtain ⟨hb1, hhb⟩ : ∃ q, q = hasB x.op 103 := ⟨_, rfl⟩
  rw [← hhb]
  clear b1 hhb
  cases hb1
  ·go_wp2_with fail
   all_goals (go_ret; exact ⟨_, rfl, HQ.out.bel⟩)
  ·go_wp2_with fail
   all_goals (go_ret; exact ⟨_, rfl, HQ.out.bel⟩)
end Go.Proofs.YtnklnklkblgnfaaGreatDoor
end
section
namespace Go.Proofs.YtnklnklkblgnfaaGreatDoor
open Go.RowKit Go.Dfl Go.Obs Go.Hir
open Go.Gra (gen_code gen_calls)
def InstrR (cs : List Cl) (f : Fu) (i : Nat) (W : World) (e : Ending) (W' : World) : Prop := ∃ n : Int, e = .returned (.int .i64 n) ∧ (n = 0 → IOk cs f i) ∧ Below W.heap.size W W'
set_option maxHeartbeats 6400000 in
set_option maxRecDepth 8000 in
theorem rInstr_any (cs : List Cl) (hv : Value) (f : Fu) (vv cv : Value) (i : Nat) (W : World) (h : InS vCl W hv cs) (hl : cs.length ≤ 1000000) (hvv : InS vVd W vv f.vs) (hcv : InS vIs W cv f.cd) (hi : i < f.cd.length) (hal : (nth f.cd i).ar.length ≤ 1048576) :
  Calls Tryz.prog 67 #[.agg #[hv], fuV f vv cv, .int .i64 (i : Int)] W (InstrR cs f i W) := by
 obtain ⟨ha, hc, rfl⟩ := h.shape
 have hvv0 := hvv
 have hcv0 := hcv
 obtain ⟨va, vc, rfl, hvl⟩ := InS.vd hvv
 obtain ⟨ca, cc, rfl, hcl, cidx, ccell⟩ := InS.is hcv
 obtain ⟨n, hn⟩ : ∃ n, n = f.vs.length := ⟨_, rfl⟩
 obtain ⟨m, hm⟩ : ∃ n, n = f.cd.length := ⟨_, rfl⟩
 rw [← hm] at cidx ccell hcl hi
 rw [← hn] at hvv0
 rw [← hm] at hcv0
 rw [← hn, ← hm]
 obtain ⟨-, v7, hin, hz⟩ := ccell i hi
 obtain ⟨x, hx⟩ : ∃ x, x = nth f.cd i := ⟨_, rfl⟩
 rw [← hx] at hz hin hal
 have HE := Lib.hid (((Env.refl W).alloc [.slice ha cs.length hc] 24).alloc (fuC f (.slice va n vc) (.slice ca m cc)) 95)
 obtain ⟨xa, xc, hv7⟩ := hin.2.2.2.2.2.2.2.2.2.shape
 subst hv7
 have hin0 := hin
 obtain ⟨k, hk⟩ : ∃ n, n = x.ar.length := ⟨_, rfl⟩
 rw [← hk] at hz hin0
 have HC := Lib.hid (And.intro (And.intro h (And.intro hvv0 hcv0)) (And.intro hz (And.intro hx (And.intro hin0 (And.intro hm (And.intro hi hal))))))
 have j0 := cidx (i : Int) (by omega) (by omega)
 rw [Int.toNat_natCast] at j0
 have hcl2 := hcl
 clear hvl cidx ccell hvv hcv hn hm hk hz hx hin hin0 hcl hvv0 hcv0 h hal
 unfold fuV
 go_enter Tryz.func67, Tryz.ntmps67
 go_upto_region 1 with fail
 refine gen_code (fun Z => Env W [fkC (W.heap.size + 1) (fuC f (.slice va n vc) (.slice ca m cc)), fkC W.heap.size [.slice ha cs.length hc]] Z) (by have h := HE.out; rw [World.size_alloc] at h; exact h) ?_
 intro Z hZ
 obtain ⟨b, hb⟩ : ∃ b, b = W.heap.size := ⟨_, rfl⟩
 obtain ⟨bf, hbf⟩ : ∃ b, b = W.heap.size + 1 := ⟨_, rfl⟩
 rw [← hbf, ← hb] at hZ ⊢
 have HZ := Lib.hid hZ
 have d6 := hZ.cell 0 rfl 6 rfl
 obtain ⟨p0, p1, p2, p3, p4, p5, p6, p7, p8, p9⟩ := HC.out.2.1 Z hZ.bel
 clear hZ hb hbf HE
 go_upto_region 2 with fail
 refine gen_code (fun Z' => Env W [fkC Z.heap.size (isC' x (.slice xa k xc)), fkC bf (fuC f (.slice va n vc) (.slice ca m cc)), fkC b [.slice ha cs.length hc]] Z') (HZ.out.alloc (isC' x (.slice xa k xc)) 79) ?_
 intro Z2 hZ2
 obtain ⟨bx, hbx⟩ : ∃ b, b = Z.heap.size := ⟨_, rfl⟩
 rw [← hbx] at hZ2 ⊢
 have H2 := Lib.hid hZ2
 clear hZ2 hbx d6 p0 p1 p2 p3 p4 p5 p6 p7 p8 p9 HZ
 go_cut [31] (fun q wx => ∃ en : Bool, q = .bool en ∧ (en = false → 0 ≤ x.op ∧ x.op ≤ 16) ∧ Env W [fkC bx (isC' x (.slice xa k xc)), fkC bf (fuC f (.slice va n vc) (.slice ca m cc)), fkC b [.slice ha cs.length hc]] wx)
 case first =>
  have e0 := H2.out.cell 0 rfl 0 rfl
  go_wp2_with fail
  refine (rName_any x.op _).mono ?_
  rintro e W1 ⟨rfl, b1⟩
  have H3 := Lib.hid (H2.out.below b1)
  clear b1 e0
  by_cases ho : 0 ≤ x.op ∧ x.op < 17
  ·have hne := nmP_ne ho
   obtain ⟨y, hy⟩ : ∃ y, y = nmP x.op := ⟨_, rfl⟩
   rw [← hy] at hne ⊢
   have t0 := tl_ne hne
   have t1 := te_ne hne
   have HO := Lib.hid ho
   clear ho hne hy
   have e0 := H3.out.cell 0 rfl 0 rfl
   have e4 := H3.out.cell 0 rfl 4 rfl
   by_cases h4 : x.op = 4
   ·have t4 : (x.op == 4) = true := by simp [h4]
    clear h4
    by_cases h1 : x.n < 1
    ·have t5 : decide (x.n < 1) = true := decide_eq_true h1
     clear h1
     go_wp2_with fail
     go_meet
     case rel => exact ⟨true, rfl, (fun h => by cases h), H3.out⟩
    ·have t5 : decide (x.n < 1) = false := decide_eq_false h1
     obtain ⟨q, hq⟩ : ∃ q, decide (5 < x.n) = q := ⟨_, rfl⟩
     clear h1
     go_wp2_with fail
     go_meet
     case rel => exact ⟨q, by rw [← hq]; try rfl, (fun _ => by have := HO.out; omega), H3.out⟩
   ·have t4 : (x.op == 4) = false := by simpa using h4
    clear h4
    go_wp2_with fail
    go_meet
    case rel => exact ⟨false, rfl, (fun _ => by have := HO.out; omega), H3.out⟩
  ·have he : nmP x.op = ⟨#[]⟩ := by unfold nmP; rw [if_neg ho]
   rw [he]
   clear ho he
   go_wp2_with fail
   go_meet
   case rel => exact ⟨true, rfl, (fun h => by cases h), H3.out⟩
 case rest =>
 obtain ⟨en, rfl, hop, hE⟩ := hcut
 have H3 := Lib.hid (And.intro hE hop)
 clear hE hop H2
 cases en
 case true =>
  go_wp2_with fail
  go_ret
  exact ⟨12, rfl, (fun h => by cases h), H3.out.1.bel⟩
 have e0 := H3.out.1.cell 0 rfl 0 rfl
 have e1 := H3.out.1.cell 0 rfl 1 rfl
 have e2 := H3.out.1.cell 0 rfl 2 rfl
 have e3 := H3.out.1.cell 0 rfl 3 rfl
 have e4 := H3.out.1.cell 0 rfl 4 rfl
 have e5 := H3.out.1.cell 0 rfl 5 rfl
 have e6 := H3.out.1.cell 0 rfl 6 rfl
 have e7 := H3.out.1.cell 0 rfl 7 rfl
 have e8 := H3.out.1.cell 0 rfl 8 rfl
 have e9 := H3.out.1.cell 0 rfl 9 rfl
 go_wp2_with fail
 refine (rUnused_any x _ _ (HC.out.2.2.2.1.2.2.2.2.2.2.2.2.2.below H3.out.1.bel)).mono ?_
 rintro e W4 ⟨q, rfl, b4⟩
 have H4 := Lib.hid (H3.out.1.below b4)
 clear b4 e0 e1 e2 e3 e4 e5 e6 e7 e8 e9
 cases q
 case false =>
  go_wp2_with fail
  go_ret
  exact ⟨1, rfl, (fun h => by cases h), H4.out.bel⟩
 have d0 := H4.out.cell 1 rfl 0 rfl
 have d1 := H4.out.cell 1 rfl 1 rfl
 have d2 := H4.out.cell 1 rfl 2 rfl
 have d3 := H4.out.cell 1 rfl 3 rfl
 have d4 := H4.out.cell 1 rfl 4 rfl
 have d5 := H4.out.cell 1 rfl 5 rfl
 have d6 := H4.out.cell 1 rfl 6 rfl
 have e0 := H4.out.cell 0 rfl 0 rfl
 have e1 := H4.out.cell 0 rfl 1 rfl
 have e2 := H4.out.cell 0 rfl 2 rfl
 have e3 := H4.out.cell 0 rfl 3 rfl
 have e4 := H4.out.cell 0 rfl 4 rfl
 have e5 := H4.out.cell 0 rfl 5 rfl
 have e6 := H4.out.cell 0 rfl 6 rfl
 have e7 := H4.out.cell 0 rfl 7 rfl
 have e8 := H4.out.cell 0 rfl 8 rfl
 have e9 := H4.out.cell 0 rfl 9 rfl
 go_wp2_with fail
 refine (rRanges_any f _ _ x _ _ (HC.out.1.2.1.below H4.out.bel) (HC.out.1.2.2.below H4.out.bel) (HC.out.2.2.2.1.2.2.2.2.2.2.2.2.2.below H4.out.bel) HC.out.2.2.2.2.2.2 HC.out.2.2.2.1.2.2.1 HC.out.2.2.2.1.2.2.2.1).mono ?_
 rintro e W5 ⟨q, rfl, hr, b5⟩
 have H5 := Lib.hid (And.intro (H4.out.below b5) hr)
 clear b5 hr
 clear d0 d1 d2 d3 d4 d5 d6 e0 e1 e2 e3 e4 e5 e6 e7 e8 e9
 cases q
 case false =>
  go_wp2_with fail
  go_ret
  exact ⟨4, rfl, (fun h => by cases h), H5.out.1.bel⟩
 have d0 := H5.out.1.cell 1 rfl 0 rfl
 have d1 := H5.out.1.cell 1 rfl 1 rfl
 have d2 := H5.out.1.cell 1 rfl 2 rfl
 have d3 := H5.out.1.cell 1 rfl 3 rfl
 have d4 := H5.out.1.cell 1 rfl 4 rfl
 have d5 := H5.out.1.cell 1 rfl 5 rfl
 have d6 := H5.out.1.cell 1 rfl 6 rfl
 go_wp2_with fail
 refine (rLeaves_any f _ _ i _ (HC.out.1.2.1.below H5.out.1.bel) (HC.out.1.2.2.below H5.out.1.bel) (by rw [← HC.out.2.2.2.2.1]; exact HC.out.2.2.2.2.2.1) (by rw [← HC.out.2.2.1]; exact H5.out.2 trivial)).mono ?_
 rintro e W6 ⟨q, rfl, hs, b6⟩
 have H6 := Lib.hid (And.intro (H5.out.1.below b6) hs)
 clear b6 hs d0 d1 d2 d3 d4 d5 d6
 cases q
 case true =>
  go_wp2_with fail
  go_ret
  exact ⟨1, rfl, (fun h => by cases h), H6.out.1.bel⟩
 have c0 := H6.out.1.cell 2 rfl 0 rfl
 have d0 := H6.out.1.cell 1 rfl 0 rfl
 have d1 := H6.out.1.cell 1 rfl 1 rfl
 have d2 := H6.out.1.cell 1 rfl 2 rfl
 have d3 := H6.out.1.cell 1 rfl 3 rfl
 have d4 := H6.out.1.cell 1 rfl 4 rfl
 have d5 := H6.out.1.cell 1 rfl 5 rfl
 have d6 := H6.out.1.cell 1 rfl 6 rfl
 have e0 := H6.out.1.cell 0 rfl 0 rfl
 have e1 := H6.out.1.cell 0 rfl 1 rfl
 have e2 := H6.out.1.cell 0 rfl 2 rfl
 have e3 := H6.out.1.cell 0 rfl 3 rfl
 have e4 := H6.out.1.cell 0 rfl 4 rfl
 have e5 := H6.out.1.cell 0 rfl 5 rfl
 have e6 := H6.out.1.cell 0 rfl 6 rfl
 have e7 := H6.out.1.cell 0 rfl 7 rfl
 have e8 := H6.out.1.cell 0 rfl 8 rfl
 have e9 := H6.out.1.cell 0 rfl 9 rfl
 go_wp2_with fail
 refine (rTypes12_any cs _ f _ _ x _ _ (HC.out.1.1.below H6.out.1.bel) hl (HC.out.1.2.1.below H6.out.1.bel) (HC.out.1.2.2.below H6.out.1.bel) (HC.out.2.2.2.1.2.2.2.2.2.2.2.2.2.below H6.out.1.bel) (H5.out.2 trivial)).mono ?_
 rintro e W7 ⟨q, rfl, ht, b7⟩
 have H7 := Lib.hid (And.intro (H6.out.1.below b7) ht)
 clear b7 ht
 clear d0 d1 d2 d3 d4 d5 d6 e0 e1 e2 e3 e4 e5 e6 e7 e8 e9
 clear c0
 go_wp2_with fail
 go_ret
 exact ⟨q, rfl, fun h => ⟨by rw [← HC.out.2.2.1]; exact H3.out.2 trivial, by rw [← HC.out.2.2.1]; exact H5.out.2 trivial, H6.out.2 trivial, by rw [← HC.out.2.2.1]; exact H7.out.2 h⟩, H7.out.1.bel⟩
end Go.Proofs.YtnklnklkblgnfaaGreatDoor
end
section
namespace Go.Proofs.YtnklnklkblgnfaaGreatDoor
open Go.RowKit Go.Dfl Go.Obs Go.Hir
open Go.Gra (gen_code gen_calls)
theorem byte_at {s : ByteArray} {j : Nat} (hlt : j < s.size) : ∀ W, (Instr.index 9 (.string s) (.int .i64 (j : Int))).run Tryz.prog W = .ok (.int .u8 (bt s j : Int)) W := fun W => by
 rw [run_index_string 9 s .i64 _ Tryz.underlying9 (w := W), dif_pos ⟨by omega, by omega⟩]
 simp only [Int.toNat_natCast]
 unfold bt
 rw [dif_pos hlt]
set_option maxHeartbeats 1600000 in
theorem rNatural_any (s : ByteArray) (W : World) (hs : s.size ≤ maxLen) : Calls Tryz.prog 109 #[.string s] W (AnyB W) := by
 unfold maxLen at hs
 go_enter Tryz.func109, Tryz.ntmps109
 go_wp2_with fail
 go_loop [3] (fun x => ∃ k : Nat, k ≤ s.size ∧ x = .int .i64 (k : Int)) (fun x => s.size - (intOf x).toNat)
 case atStart => exact ⟨0, by omega, rfl⟩
 case round =>
  obtain ⟨k, hk, rfl⟩ := hrel
  by_cases hlt : k < s.size
  ·have hki : (k : Int) < (s.size : Int) := by omega
   have hix := byte_at hlt
   obtain ⟨c, hc⟩ : ∃ c, c = bt s k := ⟨_, rfl⟩
   rw [← hc] at hix
   clear hc
   obtain ⟨q1, h1⟩ : ∃ q, (decide ((c : Int) < 48)) = q := ⟨_, rfl⟩
   obtain ⟨q2, h2⟩ : ∃ q, (decide (57 < (c : Int))) = q := ⟨_, rfl⟩
   have h3 : (decide (c < 48)) = q1 := by rw [← h1]; exact decide_eq_decide.2 (by omega)
   have h4 : (decide (57 < c)) = q2 := by rw [← h2]; exact decide_eq_decide.2 (by omega)
   cases q1
   ·cases q2
    ·go_wp2_with fail
     go_round
     case rel => exact ⟨k + 1, by omega, by go_num⟩
     case measure => simp [intOf]; omega
    ·go_wp2_with fail
     go_ret
     exact ⟨⟨_, rfl⟩, rfl⟩
   ·go_wp2_with fail
    go_ret
    exact ⟨⟨_, rfl⟩, rfl⟩
  ·obtain rfl : k = s.size := by omega
   clear hlt hk
   by_cases h1 : s.size = 1
   ·have t1 : ((s.size : Int) == 1) = true := by simp; omega
    go_wp2_with fail
    go_ret
    exact ⟨⟨_, rfl⟩, rfl⟩
   ·have t1 : ((s.size : Int) == 1) = false := by simp; omega
    by_cases h2 : 1 < s.size
    ·have t2 : (decide (1 < (s.size : Int))) = true := decide_eq_true (by omega)
     have hix := byte_at (s := s) (j := 0) (by omega)
     go_wp2_with fail
     all_goals (go_ret; exact ⟨⟨_, rfl⟩, rfl⟩)
    ·have t2 : (decide (1 < (s.size : Int))) = false := decide_eq_false (by omega)
     go_wp2_with fail
     go_ret
     exact ⟨⟨_, rfl⟩, rfl⟩
set_option maxHeartbeats 6400000 in
set_option maxRecDepth 8000 in
theorem rNames_any (cs : List Cl) (hv : Value) (f : Fu) (vv cv : Value) (W : World) (h : InS vCl W hv cs) (hvv : InS vVd W vv f.vs) (hcv : InS vIs W cv f.cd) :
  Calls Tryz.prog 66 #[.agg #[hv], fuV f vv cv] W (SomeC W) := by
 obtain ⟨ha, hc, rfl⟩ := h.shape
 obtain ⟨va, vc, rfl, hvl, vidx, vcell⟩ := InS.vd hvv
 obtain ⟨ca, cc, rfl⟩ := hcv.shape
 obtain ⟨n, hn⟩ : ∃ n, n = f.vs.length := ⟨_, rfl⟩
 obtain ⟨m, hm⟩ : ∃ n, n = f.cd.length := ⟨_, rfl⟩
 rw [← hn] at vidx vcell hvl
 rw [← hn, ← hm]
 have HE := Lib.hid (((Env.refl W).alloc [.slice ha cs.length hc] 24).alloc (fuC f (.slice va n vc) (.slice ca m cc)) 95)
 have HC := Lib.hid (And.intro h (And.intro vidx vcell))
 have hcl2 := hvl
 clear h hvv hcv hn hm vidx vcell hvl
 unfold fuV
 go_enter Tryz.func66, Tryz.ntmps66
 go_wp2_with fail
 refine gen_code (fun Z => Env W [fkC (W.heap.size + 1) (fuC f (.slice va n vc) (.slice ca m cc)), fkC W.heap.size [.slice ha cs.length hc]] Z) (by have h := HE.out; rw [World.size_alloc] at h; exact h) ?_
 intro Z hZ
 obtain ⟨b, hb⟩ : ∃ b, b = W.heap.size := ⟨_, rfl⟩
 obtain ⟨bf, hbf⟩ : ∃ b, b = W.heap.size + 1 := ⟨_, rfl⟩
 rw [← hbf, ← hb] at hZ ⊢
 have HZ := Lib.hid hZ
 clear hZ hb hbf HE
 go_loopw [5] (fun z wr => ∃ k : Nat, k ≤ n ∧ z = .int .i64 (k : Int) ∧ Hid (Env W [fkC bf (fuC f (.slice va n vc) (.slice ca m cc)), fkC b [.slice ha cs.length hc]] wr)) (fun z _ => n - (intOf z).toNat)
 case atStart => exact ⟨0, by omega, rfl, HZ.out⟩
 case round =>
  clear HZ
  obtain ⟨k, hk, rfl, hh⟩ := hrel
  have d4 := hh.out.cell 0 rfl 4 rfl
  by_cases hlt : k < n
  ·have hki : (k : Int) < (n : Int) := by omega
   obtain ⟨-, hsz, hz⟩ := HC.out.2.2 k hlt
   obtain ⟨p0, p1⟩ := hz wr hh.out.bel
   have j1 := HC.out.2.1 (k : Int) (by omega) (by omega)
   rw [Int.toNat_natCast] at j1
   obtain ⟨y, hy⟩ : ∃ y, y = nth f.vs k := ⟨_, rfl⟩
   rw [← hy] at p0 p1 hsz
   have HSZ := Lib.hid hsz
   clear hz hy hsz
   go_upto_region 4 with fail
   go_cut [6, 7] (fun p q wx => p = .string y.n ∧ q = .string y.t ∧ Env W [fkC bf (fuC f (.slice va n vc) (.slice ca m cc)), fkC b [.slice ha cs.length hc]] wx)
   case first =>
    go_quiet (fail)
    go_wp2_with fail
    go_meet
    case rel => exact ⟨rfl, rfl, hh.out.below (qt_below (Qt.drewN _ _))⟩
   case rest =>
   obtain ⟨rfl, rfl, hE⟩ := hcut
   have H1 := Lib.hid hE
   clear hE d4 p0 p1 j1
   go_upto_region 5 with fail
   go_cut [8] (fun q wx => ∃ en : Bool, q = .bool en ∧ Env W [fkC bf (fuC f (.slice va n vc) (.slice ca m cc)), fkC b [.slice ha cs.length hc]] wx)
   case first =>
    have d2 := H1.out.cell 0 rfl 2 rfl
    by_cases h0 : k = 0
    ·have t0 : ((k : Int) == 0) = true := by simp; omega
     clear h0
     rcases Bool.eq_false_or_eq_true f.st with hst | hst
     ·go_wp2_with fail
      go_meet
      case rel => exact ⟨_, rfl, H1.out⟩
     ·by_cases he : y.n = ⟨#[116, 104, 105, 115]⟩
      ·have t1 : (y.n.toList == [116, 104, 105, 115]) = true := tl_lit he
       clear he
       go_wp2_with fail
       go_meet
       case rel => exact ⟨_, rfl, H1.out⟩
      ·have t1 : (y.n.toList == [116, 104, 105, 115]) = false := tl_litn he
       clear he
       go_wp2_with fail
       go_meet
       case rel => exact ⟨_, rfl, H1.out⟩
    ·have t0 : ((k : Int) == 0) = false := by simp; omega
     clear h0
     go_wp2_with fail
     go_meet
     case rel => exact ⟨_, rfl, H1.out⟩
   case rest =>
   obtain ⟨en, rfl, hE⟩ := hcut
   have H2 := Lib.hid hE
   clear hE H1
   go_upto_region 6 with fail
   go_cut [66] (fun q wx => ∃ en : Bool, q = .bool en ∧ Env W [fkC bf (fuC f (.slice va n vc) (.slice ca m cc)), fkC b [.slice ha cs.length hc]] wx)
   case first =>
    cases en
    case true =>
     go_wp2_with fail
     go_meet
     case rel => exact ⟨_, rfl, H2.out⟩
    go_wp2_with fail
    refine (rIdent_any y.n _ HSZ.out.1).mono ?_
    rintro e W3 ⟨q, rfl, -, b3⟩
    have H3 := Lib.hid (H2.out.below b3)
    clear b3
    cases q
    case true =>
     go_wp2_with fail
     go_meet
     case rel => exact ⟨_, rfl, H3.out⟩
    by_cases h2 : y.n.size < 2
    ·have t2 : decide ((y.n.size : Int) < 2) = true := decide_eq_true (by omega)
     clear h2
     go_wp2_with fail
     go_meet
     case rel => exact ⟨_, rfl, H3.out⟩
    have t2 : decide ((y.n.size : Int) < 2) = false := decide_eq_false (by omega)
    by_cases h3 : 32 < y.n.size
    ·have t3 : decide (32 < (y.n.size : Int)) = true := decide_eq_true (by omega)
     clear h2 h3
     go_wp2_with fail
     go_meet
     case rel => exact ⟨_, rfl, H3.out⟩
    have t3 : decide (32 < (y.n.size : Int)) = false := decide_eq_false (by omega)
    have h0 : 0 < y.n.size := by omega
    by_cases h4 : ((y.n[0]'h0).toNat : Int) = 36
    ·have hts : (y.n.extract 1 y.n.size).size ≤ maxLen := by
      have := HSZ.out.1
      rw [ByteArray.size_extract]; omega
     clear h2 h3
     go_wp2_with fail
     refine (rNatural_any _ _ hts).mono ?_
     rintro e W4 ⟨⟨q, rfl⟩, rfl⟩
     cases q
     ·go_wp2_with fail
      go_meet
      case rel => exact ⟨_, rfl, H3.out⟩
     ·go_wp2_with fail
      go_meet
      case rel => exact ⟨_, rfl, H3.out⟩
    ·have t4 : (((y.n[0]'h0).toNat : Int) == 36) = false := by simpa using h4
     clear h2 h3
     go_wp2_with fail
     go_meet
     case rel => exact ⟨_, rfl, H3.out⟩
   case rest =>
   obtain ⟨en, rfl, hE⟩ := hcut
   have H3 := Lib.hid hE
   clear hE H2
   cases en
   case true =>
    go_wp2_with fail
    go_ret
    exact ⟨5, rfl, H3.out.bel⟩
   have c0 := H3.out.cell 1 rfl 0 rfl
   by_cases ht : y.t = tN
   ·have t1 : (y.t.toList == [110, 117, 108, 108]) = true := tl_lit ht
    have t2 : (y.t.toList != [110, 117, 108, 108]) = false := by rw [bne, t1]; rfl
    clear ht
    go_wp2_with fail
    go_roundw
    case rel => exact ⟨k + 1, by omega, by go_num, H3.out⟩
    case measure => simp [intOf]; omega
   ·have t1 : (y.t.toList == [110, 117, 108, 108]) = false := tl_litn ht
    have t2 : (y.t.toList != [110, 117, 108, 108]) = true := by rw [bne, t1]; rfl
    clear ht
    go_wp2_with fail
    refine (rType_any cs _ y.t _ (HC.out.1.below H3.out.bel)).mono ?_
    rintro e W4 ⟨q, rfl, b4⟩
    have H4 := Lib.hid (H3.out.below b4)
    clear b4 c0
    cases q
    ·go_wp2_with fail
     go_ret
     exact ⟨8, rfl, H4.out.bel⟩
    ·go_wp2_with fail
     go_roundw
     case rel => exact ⟨k + 1, by omega, by go_num, H4.out⟩
     case measure => simp [intOf]; omega
  ·obtain rfl : k = n := by omega
   clear hlt hk
   go_wp2_with fail
   go_ret
   exact ⟨0, rfl, hh.out.bel⟩
end Go.Proofs.YtnklnklkblgnfaaGreatDoor
end
