/- Contracts of container/heap on scc's heap of numbers. -/
import Derived.Test.YtchmjgjagaaomaaScm
import Derived.Test.YtchmjgjagaaomaaDrm
import Derived.Test.YtchmjgjagaaomaaGa
import Derived.Test.YtchmjgjagaaomaaGy
namespace Go.Proofs.Ytchmjgjagaaomaa
open Go.RowKit Go.Dfl Go.Gra Go.Tj
theorem sLeast : SliceOf Try.prog 64 3 (.int .i64 0) 1 8 := ⟨Try.underlying64, info_parts (P := Try.prog) (e := 3) (by kernel_rfl)⟩
/-- What heap operations keep. -/
structure HpF (keep : Nat → Prop) (W W' : World) : Prop where
  os : W'.os = W.os
  tape : W'.tape = W.tape
  out : W'.output = W.output
  size : W.heap.size ≤ W'.heap.size
  blk : ∀ q, keep q → W'.heap[q]? = W.heap[q]?
theorem HpF.refl (keep : Nat → Prop) (W : World) : HpF keep W W := ⟨rfl, rfl, rfl, Nat.le_refl _, fun _ _ => rfl⟩
theorem HpF.trans {keep : Nat → Prop} {A B C : World} (h : HpF keep A B) (k : HpF keep B C) : HpF keep A C := ⟨k.os.trans h.os, k.tape.trans h.tape, k.out.trans h.out, Nat.le_trans h.size k.size, fun q hq => (k.blk q hq).trans (h.blk q hq)⟩
theorem HpF.grow {keep : Nat → Prop} {W W' : World} {row : Option Nat} (hg : W.grownBy W' row) (hk : ∀ q, keep q → q < W.heap.size) (hr : ∀ q, row = some q → ¬ keep q) : HpF keep W W' := ⟨hg.os, hg.tape, hg.output, hg.size, fun q hq => hg.block q (hk q hq) fun e => hr q e.symm hq⟩
/-- The heap: a slice in a box. -/
structure HpV (keep : Nat → Prop) (bq B : Nat) (s : Option Addr) (n c : Nat) (l : List Nat) (W : World) : Prop where
  cell : W.cell? ⟨bq, 0, none⟩ = some (.slice s n c)
  own : OwnI W B 3 (.slice s n c) (castL l)
  len : l.length = n
  frz : W.frozen? ⟨bq, 0, none⟩ = false
  nb : (Value.slice s n c).ownBlock ≠ some bq
  nk : ¬ keep bq
  rk : ∀ q, (Value.slice s n c).ownBlock = some q → ¬ keep q
  kb : ∀ q, keep q → q < W.heap.size
  top : B ≤ W.heap.size
def HpS (keep : Nat → Prop) (bq B : Nat) (l : List Nat) (W : World) : Prop := ∃ s n c, HpV keep bq B s n c l W
section
variable {keep : Nat → Prop} {bq B n c : Nat} {s : Option Addr} {l : List Nat} {W W' : World}
theorem HpV.in (h : HpV keep bq B s n c l W) : bq < W.heap.size := World.block_lt_of_cell? _ _ h.cell
theorem HpV.rd (h : HpV keep bq B s n c l W) {i : Nat} (hi : i < n) : W.cell? ⟨blk s, ofs s + i, none⟩ = some (.int .i64 ((nth l i : Nat) : Int)) ∧ (∀ Y, (Instr.indexAt 64 (.slice s n c) (.int .i64 (i : Int))).run Try.prog Y = .ok (.pointer (some ⟨blk s, ofs s + i, none⟩)) Y) ∧ W.frozen? ⟨blk s, ofs s + i, none⟩ = false := by
  have hl : (castL l).length = n := by rw [castL_len]; exact h.len
  obtain ⟨a9, c9, he, hm9, hidx, hcell, -⟩ := h.own.lst.out1 sLeast
  rw [hl] at he hm9 hidx hcell
  simp only [Value.slice.injEq] at he
  obtain ⟨rfl, -, rfl⟩ := he
  refine ⟨?_, fun Y => by have := hidx .i64 (i : Int) (by omega) (by omega) Y; rw [Int.toNat_natCast] at this; exact this, h.own.frozen (by omega) _⟩
  have := hcell i hi
  rw [castL_nth (by rw [h.len]; exact hi)] at this
  exact this
theorem HpV.max (h : HpV keep bq B s n c l W) : n < 9223372036854775808 := by
  obtain ⟨a9, c9, he, hm9, hidx, hcell, hb⟩ := h.own.lst.out1 sLeast
  rw [castL_len, h.len] at hm9 hb
  omega
theorem HpV.blk (h : HpV keep bq B s n c l W) (h0 : 0 < n) : (Value.slice s n c).ownBlock = some (blk s) := own_blk h.own (by rw [castL_len]; exact h.len) h0
theorem HpV.set (h : HpV keep bq B s n c l W) {i : Nat} (hi : i < n) (x : Nat) : HpV keep bq B s n c (l.set i x) (W.setCell ⟨Go.Dfl.blk s, ofs s + i, none⟩ (.int .i64 (x : Int))) ∧ HpF keep W (W.setCell ⟨Go.Dfl.blk s, ofs s + i, none⟩ (.int .i64 (x : Int))) := by
  have hb := h.blk (by omega)
  have hne : bq ≠ Go.Dfl.blk s := fun e => h.nb (by rw [hb, e])
  refine ⟨⟨?_, ?_, by rw [List.length_set]; exact h.len, by rw [World.frozen?_setCell]; exact h.frz, h.nb, h.nk, h.rk, fun q hq => by rw [World.size_setCell]; exact h.kb q hq, by rw [World.size_setCell]; exact h.top⟩, ⟨rfl, rfl, rfl, by rw [World.size_setCell]; exact Nat.le_refl _, fun q hq => ?_⟩⟩
  · rw [World.cell?_setCell_other _ _ _ _ (by intro e; exact hne (by have := congrArg Addr.block e; simpa using this.symm))]; exact h.cell
  · have := h.own.set i (x : Int); rw [castL_set] at this; exact this
  · have hq2 : q ≠ Go.Dfl.blk s := fun e => h.rk _ hb (e ▸ hq)
    rw [Below.heap_setCell _ _ _ _ hq2]
theorem HpV.swap (h : HpV keep bq B s n c l W) {i j : Nat} (hi : i < n) (hj : j < n) :
    HpV keep bq B s n c (Go.Hpl.swp l i j) ((W.setCell ⟨Go.Dfl.blk s, ofs s + i, none⟩ (.int .i64 ((nth l j : Nat) : Int))).setCell ⟨Go.Dfl.blk s, ofs s + j, none⟩ (.int .i64 ((nth l i : Nat) : Int))) ∧ HpF keep W ((W.setCell ⟨Go.Dfl.blk s, ofs s + i, none⟩ (.int .i64 ((nth l j : Nat) : Int))).setCell ⟨Go.Dfl.blk s, ofs s + j, none⟩ (.int .i64 ((nth l i : Nat) : Int))) := by
  have h1 := h.set hi (nth l j)
  have h2 := h1.1.set hj (nth l i)
  exact ⟨h2.1, h1.2.trans h2.2⟩
theorem HpV.below (h : HpV keep bq B s n c l W) (hb : Below W.heap.size W W') : HpV keep bq B s n c l W' ∧ HpF keep W W' := by
  have hlt : bq < W.heap.size := h.in
  refine ⟨⟨hb.cell (p := ⟨bq, 0, none⟩) hlt |>.trans h.cell, h.own.below hb, h.len, ?_, h.nb, h.nk, h.rk, fun q hq => Nat.lt_of_lt_of_le (h.kb q hq) hb.size, Nat.le_trans h.top hb.size⟩, ⟨hb.os, hb.tape, hb.output, hb.size, fun q hq => hb.block q (h.kb q hq)⟩⟩
  rw [World.frozen?_of_block (a := ⟨bq, 0, none⟩) (hb.block bq hlt)]; exact h.frz
end
/-- The value that the library gets. -/
def hpV (bq : Nat) : Value := .iface 63 (.pointer (some ⟨bq, 0, none⟩))
theorem m_push (a : Addr) (w : World) : (method 232 63 (.pointer (some a)) "Push").run Try.prog w = .ok (110, .pointer (some a)) w := by kernel_rfl
theorem m_pop (a : Addr) (w : World) : (method 232 63 (.pointer (some a)) "Pop").run Try.prog w = .ok (109, .pointer (some a)) w := by kernel_rfl
theorem method_by {P : Program} {t e f : Nat} {name : String} (h : ((P.info? t).bind (fun i => i.methods.find? (·.name == name))).map (fun m => (m.path, m.func)) = some (#[], some (f, false))) (n : Nat) (a : Addr) (w : World) (hu : (underlying t).run P w = .ok (.pointer e) w) : (method (n + 1) t (.pointer (some a)) name).run P w = ((loadVar e a).run P w).andThen fun v w' => .ok (f, v) w' := by
  obtain ⟨m, hm, hx⟩ := Option.map_eq_some_iff.1 h
  obtain ⟨i, hi, hm⟩ := Option.bind_eq_some_iff.1 hm
  simp only [Prod.mk.injEq] at hx
  obtain ⟨h1, h3⟩ := hx
  have hw : ∀ (xt : Array Nat) (s1 s2 : ByteArray), Builtin.ssaWrapNilChk_ xt t #[.pointer (some a), .string s1, .string s2] = pure (.pointer (some a)) := fun _ _ _ => rfl
  simp [method, typeInfo, Sem.run_bind, Sem.run_pure, hi, hm, h1, h3, follow, receiverAt, Place.get, hu, hw, strVal, asAddr]
/-- What a heap operation leaves. -/
def HpR (keep : Nat → Prop) (bq B : Nat) (s : Option Addr) (n c : Nat) (l : List Nat) (W : World) (e : Ending) (W' : World) : Prop := e = .returned (.tuple #[]) ∧ HpV keep bq B s n c l W' ∧ HpF keep W W'
set_option maxHeartbeats 1600000 in
set_option maxRecDepth 100000 in
theorem mLen_any (s : Option Addr) (n c : Nat) (W : World) : Calls Try.prog 46 #[.slice s n c] W fun e W' => e = .returned (.int .i64 (n : Int)) ∧ W' = W := by
  go_enter Try.func46, Try.ntmps46
  go_wp2_with fail
  go_ret
  exact ⟨rfl, rfl⟩
set_option maxHeartbeats 1600000 in
set_option maxRecDepth 100000 in
theorem mLess_any (keep : Nat → Prop) (bq B : Nat) (s : Option Addr) (n c : Nat) (l : List Nat) (i j : Nat) (W : World) (h : HpV keep bq B s n c l W) (hi : i < n) (hj : j < n) : Calls Try.prog 108 #[.slice s n c, .int .i64 (i : Int), .int .i64 (j : Int)] W fun e W' => e = .returned (.bool (decide (nth l i < nth l j))) ∧ Below W.heap.size W W' := by
  obtain ⟨a1, a2, -⟩ := h.rd hi
  obtain ⟨b1, b2, -⟩ := h.rd hj
  generalize nth l i = x at a1 ⊢
  generalize nth l j = y at b1 ⊢
  have HB := Lib.hid (Below.refl W.heap.size W)
  clear h hi hj
  go_enter Try.func108, Try.ntmps108
  by_cases hxy : x < y
  · have w1 : decide ((x : Int) < (y : Int)) = true := decide_eq_true (by omega)
    have w2 : decide (x < y) = true := decide_eq_true hxy
    go_wp2_with fail
    go_quiet (fail)
    go_wp2_with fail
    go_ret
    exact ⟨by rw [w2]; rfl, below_drewN HB.out _⟩
  · have w1 : decide ((x : Int) < (y : Int)) = false := decide_eq_false (by omega)
    have w2 : decide (x < y) = false := decide_eq_false hxy
    go_wp2_with fail
    go_quiet (fail)
    go_wp2_with fail
    go_ret
    exact ⟨by rw [w2]; rfl, below_drewN HB.out _⟩
set_option maxHeartbeats 1600000 in
set_option maxRecDepth 100000 in
theorem mSwap_any (keep : Nat → Prop) (bq B : Nat) (s : Option Addr) (n c : Nat) (l : List Nat) (i j : Nat) (W : World) (h : HpV keep bq B s n c l W) (hi : i < n) (hj : j < n) : Calls Try.prog 111 #[.slice s n c, .int .i64 (i : Int), .int .i64 (j : Int)] W (HpR keep bq B s n c (Go.Hpl.swp l i j) W) := by
  obtain ⟨a1, a2, a3⟩ := h.rd hi
  obtain ⟨b1, b2, b3⟩ := h.rd hj
  have hs := h.swap hi hj
  have hd := hs.1.below ((Below.refl _ _).drew)
  have HS := Lib.hid (And.intro hd.1 (hs.2.trans hd.2))
  have c1 : (W.setCell ⟨blk s, ofs s + i, none⟩ (.int .i64 ((nth l j : Nat) : Int))).cell? ⟨blk s, ofs s + j, none⟩ = some (.int .i64 ((nth l j : Nat) : Int)) := by
    by_cases e : i = j
    · subst e; exact World.cell?_setCell_same _ _ _ (by rw [a1])
    · rw [World.cell?_setCell_other _ _ _ _ (by intro e9; have h9 := congrArg Addr.off e9; simp at h9; omega)]; exact b1
  generalize nth l i = x at *
  generalize nth l j = y at *
  clear h hi hj hs hd
  go_enter Try.func111, Try.ntmps111
  go_region
  go_end0
  exact ⟨rfl, HS.out⟩
theorem hp_method {keep : Nat → Prop} {bq B n c f : Nat} {s : Option Addr} {l : List Nat} {W : World} {name : String} (hv : HpV keep bq B s n c l W) (h : ((Try.prog.info? 63).bind (fun i => i.methods.find? (·.name == name))).map (fun m => (m.path, m.func)) = some (#[], some (f, false))) :
    (method 232 63 (.pointer (some ⟨bq, 0, none⟩)) name).run Try.prog W = .ok (f, .slice s n c) W := by
  rw [method_by h 231 _ W (run_underlying Try.underlying63 W)]
  have hc := hv.cell
  go_simp
theorem q_len : ((Try.prog.info? 63).bind (fun i => i.methods.find? (·.name == "Len"))).map (fun m => (m.path, m.func)) = some (#[], some (46, false)) := by kernel_rfl
theorem q_less : ((Try.prog.info? 63).bind (fun i => i.methods.find? (·.name == "Less"))).map (fun m => (m.path, m.func)) = some (#[], some (108, false)) := by kernel_rfl
theorem q_swap : ((Try.prog.info? 63).bind (fun i => i.methods.find? (·.name == "Swap"))).map (fun m => (m.path, m.func)) = some (#[], some (111, false)) := by kernel_rfl
/-- What 'up' and 'down' leave. -/
def HpU (keep : Nat → Prop) (bq B : Nat) (s : Option Addr) (n c m : Nat) (l : List Nat) (W W' : World) : Prop := HpF keep W W' ∧ ∃ l', HpV keep bq B s n c l' W' ∧ l'.Perm l ∧ Go.Hpl.HeapN l' m ∧ ∀ k, m ≤ k → nth l' k = nth l k
set_option maxHeartbeats 1600000 in
set_option maxRecDepth 100000 in
theorem hUp_any (keep : Nat → Prop) (bq B : Nat) (s : Option Addr) (n c : Nat) (l : List Nat) (j : Nat) (W : World) (h : HpV keep bq B s n c l W) (hj : j < n) (hu : Go.Hpl.UpI l n j) : Calls Try.prog 65 #[hpV bq, .int .i64 (j : Int)] W fun e W' => e = .returned (.tuple #[]) ∧ HpU keep bq B s n c n l W W' := by
  have HS := Lib.hid (And.intro h (And.intro hj hu))
  clear h hj hu
  unfold hpV
  go_enter Try.func65, Try.ntmps65
  go_wp2_with fail
  go_loopw [1] (fun x wr => ∃ (j : Nat) (l' : List Nat), x = .int .i64 (j : Int) ∧ j < n ∧ Hid (HpF keep W wr ∧ HpV keep bq B s n c l' wr ∧ l'.Perm l ∧ Go.Hpl.UpI l' n j)) (fun x _ => (intOf x).toNat)
  case atStart => exact ⟨j, l, rfl, HS.out.2.1, HpF.refl _ _, HS.out.1, .refl _, HS.out.2.2⟩
  case round =>
    obtain ⟨j, l', rfl, hj, hh⟩ := hrel
    have HH := Lib.hid hh.out
    clear hh
    have hm := hp_method HH.out.2.1 q_less
    have hnb := HH.out.2.1.max
    by_cases h0 : j = 0
    · subst h0
      have HE : Hid (HpU keep bq B s n c n l W wr) := Lib.hid ⟨HH.out.1, l', HH.out.2.1, HH.out.2.2.1, HH.out.2.2.2.fin (.inl rfl), fun k hk => by
        have h1 := HH.out.2.1.len; have h2 := HS.out.1.len
        rw [nth_out _ _ (by omega), nth_out _ _ (by omega)]⟩
      clear hm hnb
      go_wp2_with fail
      go_end0
      exact ⟨rfl, HE.out⟩
    · obtain ⟨i, hi⟩ : ∃ i : Nat, i = (j - 1) / 2 := ⟨_, rfl⟩
      have hij : i < j := by omega
      have hq : wrap64 ((wrap64 ((j : Int) - 1)).tdiv 2) = (i : Int) := by
        rw [show wrap64 ((j : Int) - 1) = (j : Int) - 1 by unfold wrap64; omega, show (j : Int) - 1 = ((j - 1 : Nat) : Int) by omega, show (2 : Int) = ((2 : Nat) : Int) by rfl, ← Int.ofNat_tdiv, ← hi]
        unfold wrap64; omega
      have w0 : ((i : Int) == (j : Int)) = false := by simpa using (by omega : ¬ (i : Int) = (j : Int))
      have hl := mLess_any keep bq B s n c l' j i wr HH.out.2.1 hj (by omega)
      have HI := Lib.hid (And.intro hi hij)
      clear hi hij h0 hnb
      go_wp2_with fail
      refine hl.mono ?_
      rintro e w1 ⟨rfl, b1⟩
      have hv1 := HH.out.2.1.below b1
      have H1 := Lib.hid (And.intro hv1.1 (HH.out.1.trans hv1.2))
      clear hl hv1 b1 hm
      by_cases hlt : nth l' j < nth l' i
      · have w2 : decide (nth l' j < nth l' i) = true := decide_eq_true hlt
        have hm := hp_method H1.out.1 q_swap
        have hw := mSwap_any keep bq B s n c l' i j w1 H1.out.1 (by have := HI.out.2; omega) hj
        have HL := Lib.hid hlt
        clear hlt
        rw [w2]
        go_wp2_with fail
        refine hw.mono ?_
        rintro e w2 ⟨rfl, h2, f2⟩
        have hln : l'.length = n := H1.out.1.len
        have hiln : i < l'.length := by have := HI.out.2; omega
        have HR : Hid (HpF keep W w2 ∧ HpV keep bq B s n c (Go.Hpl.swp l' i j) w2 ∧ (Go.Hpl.swp l' i j).Perm l ∧ Go.Hpl.UpI (Go.Hpl.swp l' i j) n i) := Lib.hid ⟨H1.out.2.trans f2, h2, (Go.Hpl.swp_perm hiln (by omega)).trans HH.out.2.2.1, by
          have h8 := HI.out.1
          have h9 := HH.out.2.2.2.step hln.symm (by have := HI.out.2; omega) hj (by rw [← h8]; exact HL.out)
          rw [← h8] at h9; exact h9⟩
        clear h2 f2 hw hm hln hiln
        go_wp2_with fail
        go_roundw
        case rel => exact ⟨i, _, rfl, by have := HI.out.2; omega, HR.out⟩
        case measure => have := HI.out.2; simp [intOf]; omega
      · have w2 : decide (nth l' j < nth l' i) = false := decide_eq_false hlt
        have HE : Hid (HpU keep bq B s n c n l W w1) := Lib.hid ⟨H1.out.2, l', H1.out.1, HH.out.2.2.1, HH.out.2.2.2.fin (.inr (by rw [← HI.out.1]; omega)), fun k hk => by
          have h1 := HH.out.2.1.len; have h2 := HS.out.1.len
          rw [nth_out _ _ (by omega), nth_out _ _ (by omega)]⟩
        clear hlt
        rw [w2]
        go_wp2_with fail
        go_end0
        exact ⟨rfl, HE.out⟩
def IsB (e : Ending) : Prop := ∃ b, e = .returned (.bool b)
set_option maxHeartbeats 3200000 in
set_option maxRecDepth 100000 in
theorem hDown_any (keep : Nat → Prop) (bq B : Nat) (s : Option Addr) (n c : Nat) (l : List Nat) (m : Nat) (W : World) (h : HpV keep bq B s n c l W) (hm : m ≤ n) (hn : n ≤ 65536) (hu : Go.Hpl.DnI l m 0) : Calls Try.prog 66 #[hpV bq, .int .i64 0, .int .i64 (m : Int)] W fun e W' => IsB e ∧ HpU keep bq B s n c m l W W' := by
  have HS := Lib.hid (And.intro h (And.intro hm (And.intro hn hu)))
  clear h hm hn hu
  unfold hpV
  go_enter Try.func66, Try.ntmps66
  go_wp2_with fail
  go_loopw [7] (fun x wr => ∃ (i : Nat) (l' : List Nat), x = .int .i64 (i : Int) ∧ (i < m ∨ i = 0) ∧ Hid (HpF keep W wr ∧ HpV keep bq B s n c l' wr ∧ l'.Perm l ∧ Go.Hpl.DnI l' m i ∧ ∀ k, m ≤ k → nth l' k = nth l k)) (fun x _ => m - (intOf x).toNat)
  case atStart => exact ⟨0, l, rfl, .inr rfl, HpF.refl _ _, HS.out.1, .refl _, HS.out.2.2.2, fun _ _ => rfl⟩
  case round =>
    obtain ⟨i, l', rfl, hi, hh⟩ := hrel
    have HH := Lib.hid hh.out
    clear hh
    obtain ⟨j1, hj1⟩ : ∃ j1, j1 = 2 * i + 1 := ⟨_, rfl⟩
    have hmn := HS.out.2.1
    have hn8 := HS.out.2.2.1
    have hq1 : wrap64 (wrap64 (2 * (i : Int)) + 1) = (j1 : Int) := by unfold wrap64; omega
    have hq2 : wrap64 ((j1 : Int) + 1) = ((j1 + 1 : Nat) : Int) := by unfold wrap64; omega
    have hn0 : ¬ (j1 : Int) < 0 := by omega
    by_cases hjm : j1 < m
    · have g1 : ¬ (m : Int) ≤ (j1 : Int) := by omega
      have HB : Hid (i < m ∧ m ≤ n ∧ j1 = 2 * i + 1) := Lib.hid ⟨by omega, hmn, hj1⟩
      have HJM := Lib.hid hjm
      clear hj1 hmn hn8 hi hjm
      obtain ⟨j2, hj2⟩ : ∃ j2, j2 = j1 + 1 := ⟨_, rfl⟩
      rw [← hj2] at hq2
      by_cases hj2m : j2 < m
      · have g2 : (j2 : Int) < (m : Int) := by omega
        have hl := mLess_any keep bq B s n c l' j2 j1 wr HH.out.2.1 (by have := HB.out.2; omega) (by have := HB.out.2; omega)
        have hm := hp_method HH.out.2.1 q_less
        have HJ2 := Lib.hid (And.intro hj2 hj2m)
        clear hj2 hj2m
        go_wp2_with fail
        refine hl.mono ?_
        rintro e Z ⟨rfl, b1⟩
        have hv1 := HH.out.2.1.below b1
        have HZ := Lib.hid (And.intro hv1.1 (HH.out.1.trans hv1.2))
        clear hl hv1 b1 hm
        by_cases hlt : nth l' j2 < nth l' j1
        · rw [decide_eq_true hlt]
          have HJ : Hid ((0 < j2 ∧ j2 < m) ∧ (j2 - 1) / 2 = i ∧ ∀ c, 0 < c → c < m → (c - 1) / 2 = i → nth l' j2 ≤ nth l' c) := Lib.hid ⟨⟨by have := HJ2.out; omega, HJ2.out.2⟩, by have := HJ2.out; have := HB.out; omega, fun c c0 c1 c2 => by
            have h5 := HJ2.out; have h6 := HB.out
            rcases (by omega : c = j1 ∨ c = j2) with e | e
            · subst e; omega
            · subst e; exact Nat.le_refl _⟩
          obtain ⟨j, hj⟩ : ∃ j, j = j2 := ⟨_, rfl⟩
          rw [← hj] at HJ hq2 ⊢
          clear hlt hj g2 HJ2
          have hle := HJ.out.2.2
          have hl2 := mLess_any keep bq B s n c l' j i Z HZ.out.1 (by have := HJ.out.1; have := HB.out.2; omega) (by have := HB.out.1; have := HB.out.2; omega)
          have hm2 := hp_method HZ.out.1 q_less
          clear hle
          go_wp2_with fail
          refine hl2.mono ?_
          rintro e w1 ⟨rfl, b1⟩
          have hv1 := HZ.out.1.below b1
          have H1 := Lib.hid (And.intro hv1.1 (HZ.out.2.trans hv1.2))
          clear hl2 hv1 b1 hm2
          by_cases hlt : nth l' j < nth l' i
          · have w2 : decide (nth l' j < nth l' i) = true := decide_eq_true hlt
            have hm := hp_method H1.out.1 q_swap
            have hw := mSwap_any keep bq B s n c l' i j w1 H1.out.1 (by have := HB.out.1; have := HB.out.2; omega) (by have := HJ.out.1; have := HB.out.2; omega)
            have HL := Lib.hid hlt
            clear hlt
            rw [w2]
            go_wp2_with fail
            refine hw.mono ?_
            rintro e w2 ⟨rfl, h2, f2⟩
            have hln : l'.length = n := H1.out.1.len
            have HR : Hid (HpF keep W w2 ∧ HpV keep bq B s n c (Go.Hpl.swp l' i j) w2 ∧ (Go.Hpl.swp l' i j).Perm l ∧ Go.Hpl.DnI (Go.Hpl.swp l' i j) m j ∧ ∀ k, m ≤ k → nth (Go.Hpl.swp l' i j) k = nth l k) := by
              have h5 := HJ.out; have h6 := HB.out
              refine Lib.hid ⟨H1.out.2.trans f2, h2, (Go.Hpl.swp_perm (by omega) (by omega)).trans HH.out.2.2.1, HH.out.2.2.2.1.step (by omega) h5.1.1 h5.1.2 h5.2.1 HL.out h5.2.2, fun k hk => ?_⟩
              rw [Go.Hpl.nth_swp (by omega) (by omega), if_neg (by omega), if_neg (by omega)]
              exact HH.out.2.2.2.2 k hk
            clear h2 f2 hw hm hln
            go_wp2_with fail
            go_roundw
            case rel => exact ⟨j, _, rfl, .inl HJ.out.1.2, HR.out⟩
            case measure => have := HJ.out.1; have := HJ.out.2.1; have := HB.out; simp [intOf]; omega
          · have w2 : decide (nth l' j < nth l' i) = false := decide_eq_false hlt
            have HE : Hid (HpU keep bq B s n c m l W w1) := Lib.hid ⟨H1.out.2, l', H1.out.1, HH.out.2.2.1, HH.out.2.2.2.1.fin (fun c c0 c1 c2 => by have := HJ.out.2.2 c c0 c1 c2; omega), HH.out.2.2.2.2⟩
            clear hlt
            rw [w2]
            go_wp2_with fail
            go_ret
            exact ⟨⟨_, rfl⟩, HE.out⟩
        · rw [decide_eq_false hlt]
          have HJ : Hid ((0 < j1 ∧ j1 < m) ∧ (j1 - 1) / 2 = i ∧ ∀ c, 0 < c → c < m → (c - 1) / 2 = i → nth l' j1 ≤ nth l' c) := Lib.hid ⟨⟨by have := HB.out; omega, HJM.out⟩, by have := HB.out; omega, fun c c0 c1 c2 => by
            have h5 := HJ2.out; have h6 := HB.out
            rcases (by omega : c = j1 ∨ c = j2) with e | e
            · subst e; exact Nat.le_refl _
            · subst e; omega⟩
          obtain ⟨j, hj⟩ : ∃ j, j = j1 := ⟨_, rfl⟩
          rw [← hj] at HJ HB hq1 g1 hn0 hq2 ⊢
          clear hlt hj g2 HJ2
          have hle := HJ.out.2.2
          have hl2 := mLess_any keep bq B s n c l' j i Z HZ.out.1 (by have := HJ.out.1; have := HB.out.2; omega) (by have := HB.out.1; have := HB.out.2; omega)
          have hm2 := hp_method HZ.out.1 q_less
          clear hle
          go_wp2_with fail
          refine hl2.mono ?_
          rintro e w1 ⟨rfl, b1⟩
          have hv1 := HZ.out.1.below b1
          have H1 := Lib.hid (And.intro hv1.1 (HZ.out.2.trans hv1.2))
          clear hl2 hv1 b1 hm2
          by_cases hlt : nth l' j < nth l' i
          · have w2 : decide (nth l' j < nth l' i) = true := decide_eq_true hlt
            have hm := hp_method H1.out.1 q_swap
            have hw := mSwap_any keep bq B s n c l' i j w1 H1.out.1 (by have := HB.out.1; have := HB.out.2; omega) (by have := HJ.out.1; have := HB.out.2; omega)
            have HL := Lib.hid hlt
            clear hlt
            rw [w2]
            go_wp2_with fail
            refine hw.mono ?_
            rintro e w2 ⟨rfl, h2, f2⟩
            have hln : l'.length = n := H1.out.1.len
            have HR : Hid (HpF keep W w2 ∧ HpV keep bq B s n c (Go.Hpl.swp l' i j) w2 ∧ (Go.Hpl.swp l' i j).Perm l ∧ Go.Hpl.DnI (Go.Hpl.swp l' i j) m j ∧ ∀ k, m ≤ k → nth (Go.Hpl.swp l' i j) k = nth l k) := by
              have h5 := HJ.out; have h6 := HB.out
              refine Lib.hid ⟨H1.out.2.trans f2, h2, (Go.Hpl.swp_perm (by omega) (by omega)).trans HH.out.2.2.1, HH.out.2.2.2.1.step (by omega) h5.1.1 h5.1.2 h5.2.1 HL.out h5.2.2, fun k hk => ?_⟩
              rw [Go.Hpl.nth_swp (by omega) (by omega), if_neg (by omega), if_neg (by omega)]
              exact HH.out.2.2.2.2 k hk
            clear h2 f2 hw hm hln
            go_wp2_with fail
            go_roundw
            case rel => exact ⟨j, _, rfl, .inl HJ.out.1.2, HR.out⟩
            case measure => have := HJ.out.1; have := HJ.out.2.1; have := HB.out; simp [intOf]; omega
          · have w2 : decide (nth l' j < nth l' i) = false := decide_eq_false hlt
            have HE : Hid (HpU keep bq B s n c m l W w1) := Lib.hid ⟨H1.out.2, l', H1.out.1, HH.out.2.2.1, HH.out.2.2.2.1.fin (fun c c0 c1 c2 => by have := HJ.out.2.2 c c0 c1 c2; omega), HH.out.2.2.2.2⟩
            clear hlt
            rw [w2]
            go_wp2_with fail
            go_ret
            exact ⟨⟨_, rfl⟩, HE.out⟩
      · have g2 : ¬ (j2 : Int) < (m : Int) := by omega
        have HJ : Hid ((0 < j1 ∧ j1 < m) ∧ (j1 - 1) / 2 = i ∧ ∀ c, 0 < c → c < m → (c - 1) / 2 = i → nth l' j1 ≤ nth l' c) := Lib.hid ⟨⟨by have := HB.out; omega, HJM.out⟩, by have := HB.out; omega, fun c c0 c1 c2 => by
          have h6 := HB.out
          obtain rfl : c = j1 := by omega
          exact Nat.le_refl _⟩
        have HZ := Lib.hid (And.intro HH.out.2.1 HH.out.1)
        obtain ⟨Z, hZ⟩ : ∃ Z, Z = wr := ⟨_, rfl⟩
        rw [← hZ] at HZ ⊢
        obtain ⟨j, hj⟩ : ∃ j, j = j1 := ⟨_, rfl⟩
        rw [← hj] at HJ HB hq1 g1 hn0 hq2
        clear hj hj2 hj2m hZ
        have hle := HJ.out.2.2
        have hl2 := mLess_any keep bq B s n c l' j i Z HZ.out.1 (by have := HJ.out.1; have := HB.out.2; omega) (by have := HB.out.1; have := HB.out.2; omega)
        have hm2 := hp_method HZ.out.1 q_less
        clear hle
        go_wp2_with fail
        refine hl2.mono ?_
        rintro e w1 ⟨rfl, b1⟩
        have hv1 := HZ.out.1.below b1
        have H1 := Lib.hid (And.intro hv1.1 (HZ.out.2.trans hv1.2))
        clear hl2 hv1 b1 hm2
        by_cases hlt : nth l' j < nth l' i
        · have w2 : decide (nth l' j < nth l' i) = true := decide_eq_true hlt
          have hm := hp_method H1.out.1 q_swap
          have hw := mSwap_any keep bq B s n c l' i j w1 H1.out.1 (by have := HB.out.1; have := HB.out.2; omega) (by have := HJ.out.1; have := HB.out.2; omega)
          have HL := Lib.hid hlt
          clear hlt
          rw [w2]
          go_wp2_with fail
          refine hw.mono ?_
          rintro e w2 ⟨rfl, h2, f2⟩
          have hln : l'.length = n := H1.out.1.len
          have HR : Hid (HpF keep W w2 ∧ HpV keep bq B s n c (Go.Hpl.swp l' i j) w2 ∧ (Go.Hpl.swp l' i j).Perm l ∧ Go.Hpl.DnI (Go.Hpl.swp l' i j) m j ∧ ∀ k, m ≤ k → nth (Go.Hpl.swp l' i j) k = nth l k) := by
            have h5 := HJ.out; have h6 := HB.out
            refine Lib.hid ⟨H1.out.2.trans f2, h2, (Go.Hpl.swp_perm (by omega) (by omega)).trans HH.out.2.2.1, HH.out.2.2.2.1.step (by omega) h5.1.1 h5.1.2 h5.2.1 HL.out h5.2.2, fun k hk => ?_⟩
            rw [Go.Hpl.nth_swp (by omega) (by omega), if_neg (by omega), if_neg (by omega)]
            exact HH.out.2.2.2.2 k hk
          clear h2 f2 hw hm hln
          go_wp2_with fail
          go_roundw
          case rel => exact ⟨j, _, rfl, .inl HJ.out.1.2, HR.out⟩
          case measure => have := HJ.out.1; have := HJ.out.2.1; have := HB.out; simp [intOf]; omega
        · have w2 : decide (nth l' j < nth l' i) = false := decide_eq_false hlt
          have HE : Hid (HpU keep bq B s n c m l W w1) := Lib.hid ⟨H1.out.2, l', H1.out.1, HH.out.2.2.1, HH.out.2.2.2.1.fin (fun c c0 c1 c2 => by have := HJ.out.2.2 c c0 c1 c2; omega), HH.out.2.2.2.2⟩
          clear hlt
          rw [w2]
          go_wp2_with fail
          go_ret
          exact ⟨⟨_, rfl⟩, HE.out⟩
    · have g1 : (m : Int) ≤ (j1 : Int) := by omega
      have HE : Hid (HpU keep bq B s n c m l W wr) := Lib.hid ⟨HH.out.1, l', HH.out.2.1, HH.out.2.2.1, HH.out.2.2.2.1.fin (fun c c0 c1 c2 => by omega), HH.out.2.2.2.2⟩
      clear hj1 hmn hn8 hi hjm
      go_wp2_with fail
      go_ret
      exact ⟨⟨_, rfl⟩, HE.out⟩
def HpP (keep : Nat → Prop) (bq B n : Nat) (l' : List Nat) (W W' : World) : Prop := HpF keep W W' ∧ ∃ s c, HpV keep bq B s n c l' W'
theorem HpV.app {keep : Nat → Prop} {bq B n c : Nat} {s : Option Addr} {l l' : List Nat} {W w3 : World} (h : HpV keep bq B s n c l W) {s' : Option Addr} {n' c' : Nat} {o : Obj} (hown : OwnI w3 B 3 (.slice s' n' c') (castL l')) (hl : l'.length = n') (hgr : (W.alloc o).grownBy w3 (Value.slice s n c).ownBlock)
    (hat : (Value.slice s' n' c').ownBlock = (Value.slice s n c).ownBlock ∨ (Value.slice s' n' c').ownBlock = some (W.alloc o).heap.size) :
    w3.cell? ⟨bq, 0, none⟩ = some (.slice s n c) ∧ w3.frozen? ⟨bq, 0, none⟩ = false ∧ HpP keep bq B n' l' W (w3.setCell ⟨bq, 0, none⟩ (.slice s' n' c')) := by
  have hne : some bq ≠ (Value.slice s n c).ownBlock := fun e => h.nb e.symm
  have hA := grownBy_alloc W o
  have c3 := hgr.cell (hA.cell h.cell (by simp)) hne
  have f3 : w3.frozen? ⟨bq, 0, none⟩ = false := by
    rw [World.frozen?_of_block (a := ⟨bq, 0, none⟩) ((hgr.block bq (by rw [World.size_alloc]; have := h.in; omega) hne).trans (hA.block bq h.in (by simp)))]; exact h.frz
  have hne' : (Value.slice s' n' c').ownBlock ≠ some bq := fun e9 => by
    rcases hat with e | e
    · exact h.nb (by rw [← e]; exact e9)
    · rw [e] at e9
      have := Option.some.inj e9
      have := h.in
      rw [World.size_alloc] at *
      omega
  have hsz : W.heap.size ≤ w3.heap.size := Nat.le_trans (by rw [World.size_alloc]; omega) hgr.size
  refine ⟨c3, f3, ⟨hgr.os, hgr.tape, hgr.output, by rw [World.size_setCell]; exact hsz, fun q hq => ?_⟩, s', c', ?_⟩
  · have hqb : q ≠ bq := fun e => h.nk (e ▸ hq)
    have hq1 := h.kb q hq
    rw [Below.heap_setCell _ _ _ _ hqb, hgr.block q (by rw [World.size_alloc]; omega) (fun e => h.rk q e.symm hq)]
    exact (grownBy_alloc W o).block q hq1 (by simp)
  · have hcs : (w3.setCell ⟨bq, 0, none⟩ (.slice s' n' c')).cell? ⟨bq, 0, none⟩ = some (.slice s' n' c') := World.cell?_setCell_same _ _ _ (by rw [c3])
    refine ⟨hcs, hown.setOther hne' _, hl, by rw [World.frozen?_setCell]; exact f3, hne', h.nk, fun q hq hk => ?_, fun q hq => by rw [World.size_setCell]; exact Nat.lt_of_lt_of_le (h.kb q hq) hsz, by rw [World.size_setCell]; exact Nat.le_trans h.top hsz⟩
    rcases hat with e | e
    · exact h.rk q (by rw [← e]; exact hq) hk
    · rw [e] at hq
      have := Option.some.inj hq
      have := h.kb q hk
      rw [World.size_alloc] at *
      omega
set_option maxHeartbeats 1600000 in
set_option maxRecDepth 100000 in
theorem mPush_any (keep : Nat → Prop) (bq B : Nat) (s : Option Addr) (n c : Nat) (l : List Nat) (x : Nat) (W : World) (h : HpV keep bq B s n c l W) (hn : n ≤ 65536) : Calls Try.prog 110 #[.pointer (some ⟨bq, 0, none⟩), .iface 3 (.int .i64 (x : Int))] W fun e W' => e = .returned (.tuple #[]) ∧ HpP keep bq B (n + 1) (l ++ [x]) W W' := by
  have t1 := h.cell
  have hll : (castL l).length < 17592186044416 := by rw [castL_len, h.len]; omega
  have hsB := h.top
  have HS := Lib.hid h
  have hss : ((castL l) ++ [(x : Int)]) = castL (l ++ [x]) := by unfold castL; rw [List.map_append]; rfl
  have HSS := Lib.hid hss
  have HN := Lib.hid h.len
  have ta : ∀ (xt : Nat) (y : Int) (Y : World), (Instr.typeAssert (.iface 3 (.int .i64 y)) xt 3 true).run Try.prog Y = .ok (.tuple #[.int .i64 y, .bool true]) Y := fun _ _ _ => by kernel_rfl
  clear h hn hss
  go_enter Try.func110, Try.ntmps110
  go_wp2_with (at_builtin; refine wp_append1at (f := Value.int .i64) sLeast rfl _ rfl _ _ rfl B _ (castL l) rfl (HS.out.own.alloc _) (x : Int) ⟨W.heap.size, 0, none⟩ rfl (cell_alloc1 _ _ _) rfl hll (by omega) (le_alloc _ hsB) ?_; intro v' w3 hown hgr hat; obtain ⟨s9, c9, rfl⟩ := hown.shape (n := n + 1) (by rw [List.length_append, castL_len, HN.out]; rfl); rw [HSS.out] at hown; have HO := Lib.hid (HS.out.app hown (by rw [List.length_append, HN.out]; rfl) hgr hat); obtain ⟨o1, o2, -⟩ := HO.out; clear hown hgr hat t1)
  go_end0
  exact ⟨rfl, HO.out.2.2⟩
set_option maxHeartbeats 1600000 in
set_option maxRecDepth 100000 in
theorem mPop_any (keep : Nat → Prop) (bq B : Nat) (s : Option Addr) (n c : Nat) (l : List Nat) (W : World) (h : HpV keep bq B s (n + 1) c l W) : Calls Try.prog 109 #[.pointer (some ⟨bq, 0, none⟩)] W fun e W' => e = .returned (.iface 3 (.int .i64 ((nth l n : Nat) : Int))) ∧ HpP keep bq B n (l.take n) W W' := by
  have c0 := h.cell
  have f0 := h.frz
  have hmx := h.max
  obtain ⟨r1, r2, -⟩ := h.rd (i := n) (by omega)
  obtain ⟨sa, sc, hcut, hown⟩ := h.own.cutBoth sLeast (k := n) (by rw [castL_len, h.len]; omega)
  have hcu := hcut .i64
  have hob : (Value.slice sa n sc).ownBlock = (Value.slice s (n + 1) c).ownBlock := by
    obtain ⟨u, hu1, hu2, -⟩ := h.own.cutTo sLeast n (by rw [castL_len, h.len]; omega)
    have h9 := (hcut .i64 W).symm.trans (hu1 .i64 W)
    simp only [Result.ok.injEq, and_true] at h9
    rw [h9]; exact hu2
  have hq : wrap64 (n : Int) = (n : Int) := by unfold wrap64; omega
  have HE : Hid (∀ Z, Below W.heap.size W Z → HpP keep bq B n (l.take n) W (Z.setCell ⟨bq, 0, none⟩ (.slice sa n sc))) := Lib.hid fun Z hb => by
    have hz := h.below hb
    have hne : (Value.slice sa n sc).ownBlock ≠ some bq := by rw [hob]; exact h.nb
    have hct : (castL l).take n = castL (l.take n) := by unfold castL; rw [List.map_take]
    have hox := hown Z hz.1.own
    rw [hct] at hox
    refine ⟨hz.2.trans ⟨rfl, rfl, rfl, by rw [World.size_setCell]; exact Nat.le_refl _, fun q hq => Below.heap_setCell _ _ _ _ (fun e => h.nk (by have e9 : q = bq := e; rw [← e9]; exact hq))⟩, sa, sc, World.cell?_setCell_same _ _ _ (by rw [hz.1.cell]), hox.setOther hne _, by rw [List.length_take, h.len]; omega, by rw [World.frozen?_setCell]; exact hz.1.frz, hne, h.nk, fun q hq hk => ?_, fun q hq => by rw [World.size_setCell]; exact hz.1.kb q hq, by rw [World.size_setCell]; exact hz.1.top⟩
    exact h.rk q (by rw [← hob]; exact hq) hk
  generalize nth l n = x at *
  clear h hcut hown hmx hob
  go_enter Try.func109, Try.ntmps109
  go_wp2_with fail
  go_ret
  exact ⟨rfl, HE.out _ (Below.refl _ _)⟩
end Go.Proofs.Ytchmjgjagaaomaa
