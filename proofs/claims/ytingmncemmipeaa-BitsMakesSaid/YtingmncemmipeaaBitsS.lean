/- Contract of the reference's Sorted. -/
import Derived.Test.YtingmncemmipeaaBitsCh
import Derived.Deep.RegionHeld3
namespace Go.Dfl
open Go.RowKit

/-- A slice that is only read, as a source of an append. -/
def Src {α : Type} [Inhabited α] (f : α → Value) (w : World) (u : Value) (m : List α) : Prop :=
  ∃ a c, u = .slice a m.length c ∧ (a = none → m.length = 0 ∧ c = 0) ∧ ∀ j, j < m.length → ∃ ad : Addr, a = some ad ∧ w.cell? (ad.add j) = some (f (nth m j))

section
variable {α : Type} [Inhabited α] {f : α → Value} {P : Program} {t e : TypeId} {z : Value} {by8 : Nat}

theorem run_append_src (ht : SliceOf P t e z 1 by8) (hz : z.cells.size = 1) (w : World) (base : Nat) (v : Value) (l : List α) (hown : Own f w base e v l) (u : Value) (m : List α) (hu : Src f w u m) (h1 : ∀ y, (f y).oneCell' = true)
    (hlen : l.length + m.length < 17592186044416) (h8 : by8 ≤ 8) (hbase : base ≤ w.heap.size) (ty : TypeId) :
    ∃ v' w', (Builtin.append_ #[t, t] ty #[v, u]).run P w = .ok v' w' ∧ Own f w' base e v' (l ++ m) ∧ w.grownBy w' v.ownBlock := by
  obtain ⟨i, hi, hz0, hz1, hz2⟩ := ht.info
  obtain ⟨a, c, rfl, hn, hc⟩ := hu
  cases a with
  | none =>
    obtain ⟨hn1, rfl⟩ := hn rfl
    obtain rfl : m = [] := List.eq_nil_of_length_eq_zero hn1
    refine ⟨v, w, ?_, by simpa using hown, ⟨rfl, rfl, rfl, Nat.le_refl _, fun _ _ _ => rfl⟩⟩
    exact run_append_owned_none (P := P) w base t ty e i 1 ht.und hi v _ _ hown
  | some ad =>
    have hnews : ∀ j x, (m.map f)[j]? = some x → w.cell? (ad.add j) = some x := by
      intro j x hj
      have hjl : j < m.length := by
        rw [List.getElem?_eq_some_iff] at hj; obtain ⟨h, -⟩ := hj; simpa using h
      rw [nth_map f m j hjl] at hj
      obtain ⟨ad', e1, e2⟩ := hc j hjl
      simp at e1; subst e1
      rw [e2]; exact hj
    have hone : ∀ x ∈ m.map f, x.oneCell' = true := by
      intro x hx
      simp at hx; obtain ⟨y, -, rfl⟩ := hx; exact h1 y
    obtain ⟨v', w', hr, h2, h3, -⟩ := run_append_own (P := P) w base t ty e i z 1 by8 ht.und hi hz0 hz1 hz2 hz (by omega) v l.length (l.map f) hown ad m.length c (m.map f) (by simp) hnews hone (by unfold maxLen; omega) (Nat.le_trans (Nat.mul_le_mul (by omega : l.length + m.length ≤ 17592186044416) h8) (by omega)) hbase
    exact ⟨v', w', hr, by unfold Own; simpa using h2, h3⟩

/-- 'append(s, u...)' as one step of a region that draws its order. -/
theorem step_appendS (ht : SliceOf P t e z 1 by8) (hz : z.cells.size = 1) {w : World} {ops : Array Oper} {o : Oper} {a : Act} {K : Act → World → Prop} {Q : Exit → Act → World → Prop} {E : Prop}
    (hg : o.guard = none) (s x : Operand) (hop : o.op = .call { callee := .builtin .append, args := #[s, x], argTypes := #[t, t] })
    (base : Nat) (v : Value) (l : List α) (hs : a.eval s = v) (u : Value) (m : List α) (hx : a.eval x = u)
    (hown : Own f w base e v l) (hu : Src f w u m) (h1 : ∀ y, (f y).oneCell' = true)
    (hlen : l.length + m.length < 17592186044416) (h8 : by8 ≤ 8) (hbase : base ≤ w.heap.size)
    (hK : ∀ v' w', Own f w' base e v' (l ++ m) → w.grownBy w' v.ownBlock → K (a.put o.dst v') w') :
    if Region.wanted o (yielded ops a.tmps) = true then Oper.wp P o a w K Q else E := by
  have hw : Region.wanted o (yielded ops a.tmps) = true := by simp [Region.wanted, hg]
  rw [if_pos hw]
  obtain ⟨v', w', hr, h2, h3⟩ := run_append_src ht hz w base v l hown u m hu h1 hlen h8 hbase o.type
  unfold Oper.wp execOp
  simp only [hop, resolve, invoke, builtin, Sem.run_bind, Sem.run_pure, Result.andThen_ok, List.map_toArray, List.map_cons, List.map_nil, hs, hx, hr]
  exact hK v' w' h2 h3

theorem Src.grown {w w' : World} {u : Value} {m : List α} {row : Option Nat} (h : Src f w u m) (hg : w.grownBy w' row) (hr : ∀ k, u.ownBlock = some k → some k ≠ row) : Src f w' u m := by
  obtain ⟨a, c, rfl, h1, h2⟩ := h
  refine ⟨a, c, rfl, h1, fun j hj => ?_⟩
  obtain ⟨ad, rfl, h3⟩ := h2 j hj
  refine ⟨ad, rfl, hg.cell h3 ?_⟩
  have : (ad.add j).block = ad.block := by unfold Addr.add; split <;> rfl
  rw [this]
  exact hr _ rfl

/-- Own, cut in front: 'x[:k]'. -/
theorem Own.cutTo {w : World} {base : Nat} {v : Value} {l : List α} (ht : SliceOf P t e z 1 by8) (h : Own f w base e v l) (k : Nat) (hk : k ≤ l.length) :
    ∃ u, (∀ (ik : IntKind) (W : World), (Instr.slice t v none (some (.int ik (k : Int))) none).run P W = .ok u W) ∧ u.ownBlock = v.ownBlock ∧ ∀ W, Own f W base e v l → Src f W u (l.take k) := by
  obtain ⟨i, hi, _, hs, _⟩ := ht.info
  have hlt : (l.take k).length = k := by simp; omega
  obtain ⟨h1, ⟨rfl, h2⟩ | ⟨g, cap, cur, rfl, hg, hh, hc, hm, hsz, htk⟩⟩ := h
  · obtain rfl : k = 0 := by omega
    refine ⟨.slice none 0 0, fun ik W => ?_, rfl, fun W _ => ⟨none, 0, by simp, by simp, fun j hj => by simp at hj⟩⟩
    simp [Instr.slice, run_underlying ht.und, Instr.sliceBounds, Instr.sliceBound, asIntOf, run_sizeOf _ hi]
  · refine ⟨.slice (some ⟨g, 0, none⟩) k cap, fun ik W => ?_, rfl, fun W ho => ⟨some ⟨g, 0, none⟩, cap, by rw [hlt], by simp, fun j hj => ⟨_, rfl, ?_⟩⟩⟩
    · have h1' : k ≤ cap := by omega
      simp [Instr.slice, run_underlying ht.und, Instr.sliceBounds, Instr.sliceBound, asIntOf, h1', run_sizeOf _ hi, Addr.add]
    · rw [hlt] at hj
      have := World.ownsRow.cellAt ho j (by omega)
      rw [addr0, this, nth_map f l j (by omega)]
      simp [nth, List.getElem?_take, hj]
  where addr0 {g j : Nat} : (⟨g, 0, none⟩ : Addr).add j = ⟨g, j, none⟩ := by unfold Addr.add; split <;> simp_all

/-- Own, cut behind: 'x[k:]'. -/
theorem Own.cutFrom {w : World} {base : Nat} {v : Value} {l : List α} (ht : SliceOf P t e z 1 by8) (h : Own f w base e v l) (k : Nat) (hk : k ≤ l.length) :
    ∃ u, (∀ (ik : IntKind) (W : World), (Instr.slice t v (some (.int ik (k : Int))) none none).run P W = .ok u W) ∧ u.ownBlock = v.ownBlock ∧ ∀ W, Own f W base e v l → Src f W u (l.drop k) := by
  obtain ⟨i, hi, _, hs, _⟩ := ht.info
  have hlt : (l.drop k).length = l.length - k := by simp
  obtain ⟨h1, ⟨rfl, h2⟩ | ⟨g, cap, cur, rfl, hg, hh, hc, hm, hsz, htk⟩⟩ := h
  · obtain rfl : k = 0 := by omega
    refine ⟨.slice none 0 0, fun ik W => ?_, rfl, fun W _ => ⟨none, 0, by simp [h2], by simp [h2], fun j hj => by simp [h2] at hj⟩⟩
    simp [Instr.slice, run_underlying ht.und, Instr.sliceBounds, Instr.sliceBound, asIntOf, run_sizeOf _ hi]
  · refine ⟨.slice (some ⟨g, if cap = k then 0 else k, none⟩) (l.length - k) (cap - k), fun ik W => ?_, rfl, fun W ho => ⟨_, _, by rw [hlt], by simp, fun j hj => ⟨_, rfl, ?_⟩⟩⟩
    · have h1' : k ≤ l.length := by omega
      simp [Instr.slice, run_underlying ht.und, Instr.sliceBounds, Instr.sliceBound, asIntOf, h1', run_sizeOf _ hi, Addr.add, hs]
      have hce : P.cellsOf e = 1 := by simp [Program.cellsOf, hi, hs]
      by_cases hck : cap = k
      · simp [hck]
      · simp [hck, hce]
        intro h0; simp [h0]
    · rw [hlt] at hj
      have := World.ownsRow.cellAt ho (k + j) (by omega)
      rw [if_neg (by omega)]
      have ha : (⟨g, k, none⟩ : Addr).add j = ⟨g, k + j, none⟩ := by unfold Addr.add; split <;> simp_all
      rw [ha, this, nth_map f l (k + j) (by omega)]
      simp [nth]
end
end Go.Dfl
namespace Go.Proofs.Ytingmncemmipeaa
open Go.RowKit Go.Dfl

/-- The first i numbers, sorted. -/
structure SoInv (l : List Int) (i : Nat) (out : List Int) : Prop where
  asc : Asc out
  mem : ∀ y, y ∈ out ↔ y ∈ l.take i
  len : out.length ≤ i

theorem SoInv.skip {l out : List Int} {i k : Nat} (h : SoInv l i out) (hi : i < l.length) (hk : k < out.length) (he : nth out k = nth l i) : SoInv l (i + 1) out := by
  refine ⟨h.asc, fun y => ?_, by have := h.len; omega⟩
  rw [take_snoc l i hi, List.mem_append, h.mem y]
  constructor
  · exact .inl
  · rintro (h1 | h1)
    · exact h1
    · simp at h1; subst h1; rw [← he]; exact (h.mem _).1 (nth_mem _ _ hk)

theorem SoInv.ins {l out : List Int} {i k : Nat} (h : SoInv l i out) (hi : i < l.length) (hk : k ≤ out.length) (hlo : ∀ j, j < k → nth out j < nth l i) (hhi : k < out.length → nth l i < nth out k) : SoInv l (i + 1) (out.take k ++ [nth l i] ++ out.drop k) := by
  have ha := h.asc
  refine ⟨?_, fun y => ?_, by have := h.len; simp; omega⟩
  · unfold Asc at *
    have e : out.take k ++ out.drop k = out := List.take_append_drop k out
    rw [← e, List.pairwise_append] at ha
    obtain ⟨a1, a2, a3⟩ := ha
    have lo : ∀ y ∈ out.take k, y < nth l i := fun y hy => by
      obtain ⟨j, hj, rfl⟩ := mem_nth hy
      simp at hj
      have : nth (out.take k) j = nth out j := by simp [nth, List.getElem?_take, show j < k by omega]
      rw [this]; exact hlo j (by omega)
    have hi2 : ∀ y ∈ out.drop k, nth l i < y := fun y hy => by
      obtain ⟨j, hj, rfl⟩ := mem_nth hy
      simp at hj
      have : nth (out.drop k) j = nth out (k + j) := by simp [nth]
      rw [this]
      have h1 := hhi (by omega)
      by_cases e0 : j = 0
      · subst e0; exact h1
      · have := h.asc.nth (by omega : k < k + j) (by omega); omega
    rw [List.pairwise_append, List.pairwise_append]
    refine ⟨⟨a1, by simp, fun x hx y hy => by simp at hy; subst hy; exact lo x hx⟩, a2, fun x hx y hy => ?_⟩
    rcases List.mem_append.1 hx with h1 | h1
    · exact a3 x h1 y hy
    · simp at h1; subst h1; exact hi2 y hy
  · rw [take_snoc l i hi, List.mem_append, List.mem_append (s := l.take i), ← h.mem y]
    have e : y ∈ out ↔ y ∈ out.take k ∨ y ∈ out.drop k := by rw [← List.mem_append, List.take_append_drop]
    rw [e, List.mem_append]
    constructor
    · rintro ((h1 | h1) | h1)
      · exact .inl (.inl h1)
      · exact .inr h1
      · exact .inl (.inr h1)
    · rintro ((h1 | h1) | h1)
      · exact .inl (.inl h1)
      · exact .inr h1
      · exact .inl (.inr h1)

/-- What Sorted returns. -/
def SortPost (l : List Int) (w : World) (e : Ending) (w' : World) : Prop := ∃ v r, e = .returned v ∧ OwnI w' w.heap.size 3 v r ∧ Asc r ∧ (∀ y, y ∈ r ↔ y ∈ l) ∧ r.length ≤ l.length ∧ Below w.heap.size w w'

theorem gen_wp {P : Program} {c : Code} {Q : Exit → Act → World → Prop} {a : Act} {w : World} {n : Nat} (h : ∀ W, Qt w W → Code.wp P c Q a W) : Code.wp P c Q a (w.drewN n) := h _ ⟨n, rfl⟩
theorem own_empty (w : World) (base : Nat) (e : TypeId) (hb : base ≤ w.heap.size) : OwnI (w.alloc (.cells #[] e)) base e (.slice (some ⟨w.heap.size, 0, none⟩) 0 0) [] :=
  World.ownsRow_lit (size := 1) w #[] 0 hb (by unfold maxLen; omega) rfl
theorem grownBy_alloc (w : World) (o : Obj) : w.grownBy (w.alloc o) none :=
  ⟨rfl, rfl, rfl, by simp, fun k hk _ => Below.heap_alloc w o k hk⟩
theorem grownBy_drew0 (w : World) : w.grownBy w.drew none := ⟨rfl, rfl, rfl, Nat.le_refl _, fun _ _ _ => rfl⟩
theorem So_keep {w0 W1 W2 : World} {B N : Nat} {T : TypeId} {o x : Value} {out : List Int} {ad : Addr} {row : Option Nat} (h : OwnI W1 B T o out ∧ W1.cell? ad = some x ∧ Below B w0 W1) (hg : W1.grownBy W2 row) (h1 : ∀ k, o.ownBlock = some k → k < N) (h2 : ad.block < N) (h3 : B ≤ N) (hw : B ≤ w0.heap.size) (hr : ∀ b, row = some b → N ≤ b) :
    OwnI W2 B T o out ∧ W2.cell? ad = some x ∧ Below B w0 W2 := by
  refine ⟨h.1.grown hg ?_, hg.cell h.2.1 fun e => ?_, h.2.2.grown hg (Nat.le_trans hw h.2.2.size) fun k hk => Nat.le_trans h3 (hr k hk)⟩
  · cases ho : o.ownBlock with
    | none => exact .inl rfl
    | some k => exact .inr fun e => by have := h1 k ho; have := hr k e.symm; omega
  · have := hr _ e.symm; omega
theorem cell_alloc2 (W : World) (v : Value) (t : TypeId) (o : Obj) : ((W.alloc (.cells #[v] t)).alloc o).cell? ⟨W.heap.size, 0, none⟩ = some v :=
  (grownBy_alloc _ _).cell (cell_alloc1 W v t) (by simp)
theorem cell_at1 {W : World} {v : Value} {t : TypeId} {B : Nat} (h : B = W.heap.size) : (W.alloc (.cells #[v] t)).cell? ⟨B, 0, none⟩ = some v := by subst h; exact cell_alloc1 _ _ _
theorem cell_at2 {W : World} {v : Value} {t : TypeId} {B : Nat} {o : Obj} (h : B = W.heap.size) : ((W.alloc (.cells #[v] t)).alloc o).cell? ⟨B, 0, none⟩ = some v := by subst h; exact cell_alloc2 _ _ _ _
theorem own_empty1 {w : World} {base : Nat} {e : TypeId} {B : Nat} (h : B = w.heap.size) (hb : base ≤ w.heap.size) : OwnI (w.alloc (.cells #[] e)) base e (.slice (some ⟨B, 0, none⟩) 0 0) [] := by subst h; exact own_empty w base e hb
theorem src_one {w : World} {B : Nat} {x : Int} (h : w.cell? ⟨B, 0, none⟩ = some (.int .i64 x)) : Src (Value.int .i64) w (.slice (some ⟨B, 0, none⟩) 1 1) [x] :=
  ⟨_, _, rfl, by simp, fun j hj => ⟨_, rfl, by
    obtain rfl : j = 0 := by simpa using hj
    simpa [Addr.add, nth] using h⟩⟩


set_option maxHeartbeats 3200000 in
set_option maxRecDepth 100000 in
theorem Sorted_any (v : Value) (l : List Int) (w : World) (h : Ints w v l) (hlen : l.length ≤ 65536) :
    Calls Try.prog 15 #[v] w (SortPost l w) := by
  obtain ⟨a, cap, rfl, hm, hidx, hcell, hblk⟩ := h.out1 sInt
  have HC := Lib.hid (And.intro hcell hblk)
  clear h hcell hblk
  go_enter Try.func15, Try.ntmps15
  go_wp2_with fail
  go_loopw [3, 4, 5] (fun o i _ wr => ∃ (n : Nat) (out : List Int), n ≤ l.length ∧ i = .int .i64 n ∧ Hid (SoInv l n out ∧ OwnI wr w.heap.size 3 o out ∧ Below w.heap.size w wr)) (fun _ i _ _ => l.length - (intOf i).toNat)
  case atStart => exact ⟨0, [], by omega, rfl, ⟨by simp [Asc], by simp, by simp⟩, Own.nil _ _ _ _, Below.refl _ _⟩
  case round =>
    obtain ⟨n, out, hn, rfl, hh⟩ := hrel
    by_cases hlt : n < l.length
    · have hol : out.length ≤ l.length := Nat.le_trans hh.out.1.len hn
      have hck : wr.cell? ⟨blk a, ofs a + n, none⟩ = some (.int .i64 (nth l n)) := by
        rw [hh.out.2.2.cell (p := ⟨blk a, ofs a + n, none⟩) (HC.out.2 n hlt)]; exact HC.out.1 n hlt
      obtain ⟨s1, c1, rfl⟩ := hh.out.2.1.shape rfl
      obtain ⟨a3, c3, he, hm3, hidx3, hcell3, hblk3⟩ := hh.out.2.1.lst.out1 sInt
      simp at he
      obtain ⟨rfl, rfl⟩ := he
      have HC3 := Lib.hid (And.intro hcell3 hblk3)
      clear hcell3 hblk3
      go_wp2_with fail
      go_loopw [5] (fun x W => ∃ (k q : Nat), k ≤ out.length ∧ x = .int .i64 k ∧ W = wr.drewN q ∧ Hid (∀ j, j < k → nth out j < nth l n)) (fun x _ => out.length - (intOf x).toNat)
      case atStart => exact ⟨0, 0, by omega, rfl, rfl, fun j hj => by omega⟩
      case round =>
        obtain ⟨k, q, hk, rfl, rfl, hlo⟩ := hrel
        by_cases hko : k < out.length
        · have hdo : decide ((k : Int) < (out.length : Int)) = true := by simpa using hko
          have hc3 := HC3.out.1 k hko
          by_cases hlt2 : nth out k < nth l n
          · go_wp2_with fail
            go_quiet (fail)
            go_wp2_with fail
            go_roundw
            case rel => exact ⟨k + 1, _, by omega, by go_num, rfl, fun j hj => by
              by_cases e : j = k
              · subst e; exact hlt2
              · exact hlo.out j (by omega)⟩
            case measure => simp [intOf]; omega
          · have hdx : decide (nth out k < nth l n) = false := by simpa using hlt2
            by_cases heq : nth out k = nth l n
            · have heq' : (nth out k == nth l n) = true := by simpa using heq
              have HS := Lib.hid (hh.out.1.skip hlt hko heq)
              clear heq
              go_wp2_with fail
              go_quiet (fail)
              go_wp2_with fail
              go_quiet (fail)
              go_wp2_with fail
              go_roundw
              case rel => exact ⟨n + 1, out, by omega, by go_num, HS.out, hh.out.2.1.qt (by first | exact Qt.refl _ | exact Qt.drewN _ _ | exact (Qt.drewN _ _).trans (Qt.drewN _ _) | exact ((Qt.drewN _ _).trans (Qt.drewN _ _)).trans (Qt.drewN _ _) | exact Qt.drew _ | exact (Qt.drewN _ _).trans (Qt.drew _)), below_drewN hh.out.2.2 _⟩
              case measure => simp [intOf]; omega
            · have heq' : (nth out k == nth l n) = false := by simpa using heq
              have HS := Lib.hid (hh.out.1.ins hlt hk hlo.out (fun _ => by omega))
              clear heq
              go_wp2_with fail
              go_quiet (fail)
              go_wp2_with fail
              go_quiet (fail)
              go_wp2_with fail
              refine gen_wp fun W hqW' => ?_
              have hqW : Qt wr W := by first | exact hqW' | exact (Qt.drewN _ _).trans hqW' | exact ((Qt.drewN _ _).trans (Qt.drewN _ _)).trans hqW'
              clear hqW'
              have ho := hh.out.2.1.qt hqW
              obtain ⟨u1, hs1, hu1, F1⟩ := ho.cutTo sInt (k) hk
              obtain ⟨u2, hs2, hu2, F2⟩ := ho.cutFrom sInt (k) hk
              have hckW : W.cell? ⟨blk a, ofs a + n, none⟩ = some (.int .i64 (nth l n)) := by obtain ⟨q, rfl⟩ := hqW; exact hck
              have hbW : Below w.heap.size w W := hh.out.2.2.trans (hqW.below _)
              have hszW := hbW.size
              have hob := ho.lt
              have hs1' := hs1 .i64
              have hs2' := hs2 .i64
              have HO := Lib.hid (And.intro ho (And.intro hu1 (And.intro F1 (And.intro hu2 F2))))
              have HB := Lib.hid hbW
              clear ho hu1 F1 hu2 F2 hck hqW hs1 hs2 hbW hlo
              have hN1 : ∀ k, (Value.slice s1 out.length c1).ownBlock = some k → k < W.heap.size := fun k hk => (hob k hk).2
              have hN2 : blk a < W.heap.size := (cell_lt hckW).1
              have HN := Lib.hid (And.intro hN1 hN2)
              clear hob hN1 hN2
              go_region_held3 (fun w' => OwnI w' w.heap.size 3 (.slice s1 out.length c1) out ∧ w'.cell? ⟨blk a, ofs a + n, none⟩ = some (.int .i64 (nth l n)) ∧ Below w.heap.size w w')
                (first
                  | exact ⟨HO.out.1, hckW, HB.out⟩
                  | exact ⟨HO.out.1.drew, hckW, HB.out.drew⟩
                  | exact So_keep (by assumption) (grownBy_alloc _ _) HN.out.1 HN.out.2 hszW (Nat.le_refl _) (by simp)
                  | exact So_keep (by assumption) g58 HN.out.1 HN.out.2 hszW (Nat.le_refl _) (fun b hb => (o54.lt b hb).1)
                  | exact So_keep (by assumption) g54 HN.out.1 HN.out.2 hszW (Nat.le_refl _) (fun b hb => (o48.lt b hb).1)
                  | exact So_keep (by assumption) g48 HN.out.1 HN.out.2 hszW (Nat.le_refl _) (fun b hb => by have hb2 := Option.some.inj hb; simp at hb2; omega))
                (first
                  | (refine step_appendS (f := Value.int .i64) sInt rfl rfl (.tmp 44) (.tmp 47) rfl W.heap.size _ [] rfl _ (out.take (k)) rfl ?_ ?_ (fun _ => rfl) ?_ (by omega) ?_ ?_
                     · first | exact own_empty1 (by simp) (by simp) | exact (own_empty1 (by simp) (by simp)).alloc _
                     · exact HO.out.2.2.1 _ (by go_split_ands; assumption)
                     · (simp; try omega)
                     · (simp; try omega)
                     intro v48 w48 o48 g48)
                  | (refine step_appendS (f := Value.int .i64) sInt rfl rfl (.tmp 48) (.tmp 53) rfl W.heap.size _ (out.take (k)) rfl _ [nth l n] rfl ?_ ?_ (fun _ => rfl) ?_ (by omega) ?_ ?_
                     · first | exact o48 | exact o48.alloc _
                     · exact src_one (by first | exact cell_alloc1 _ _ _ | exact g48.cell (cell_at1 (by simp)) (fun h => by have h2 := Option.some.inj h; simp at h2) | exact g48.cell (cell_at2 (by simp)) (fun h => by have h2 := Option.some.inj h; simp at h2))
                     · (simp; try omega)
                     · have := g48.size; simp at this ⊢; omega
                     intro v54 w54 o54 g54)
                  | (refine step_appendS (f := Value.int .i64) sInt rfl rfl (.tmp 54) (.tmp 57) rfl W.heap.size _ _ rfl _ (out.drop (k)) rfl o54 ?_ (fun _ => rfl) ?_ (by omega) ?_ ?_
                     · exact HO.out.2.2.2.2 _ (by go_split_ands; assumption)
                     · (simp; try omega)
                     · have := g48.size; have := g54.size; simp at *; omega
                     intro v58 w58 o58 g58))
              all_goals
                have hfin : OwnI w58 w.heap.size 3 (.slice s1 out.length c1) out ∧ w58.cell? ⟨blk a, ofs a + n, none⟩ = some (.int .i64 (nth l n)) ∧ Below w.heap.size w w58 := by assumption
                have HQ : Hid (OwnI w58 w.heap.size 3 v58 (out.take (k) ++ [nth l n] ++ out.drop (k)) ∧ Below w.heap.size w w58) := ⟨o58.mono hszW, hfin.2.2⟩
                clear hfin o58 o54 o48 g58 g54 g48
                go_wp2_with fail
                go_roundw
                case rel => exact ⟨n + 1, _, by omega, by go_num, HS.out, HQ.out.1, HQ.out.2⟩
                case measure => simp [intOf]; omega
        · obtain rfl : k = out.length := by omega
          have hdo : decide ((out.length : Int) < (out.length : Int)) = false := by simp
          have HS := Lib.hid (hh.out.1.ins hlt hk hlo.out (fun h => by omega))
          go_wp2_with fail
          go_quiet (fail)
          go_wp2_with fail
          go_quiet (fail)
          go_wp2_with fail
          refine gen_wp fun W hqW' => ?_
          have hqW : Qt wr W := by first | exact hqW' | exact (Qt.drewN _ _).trans hqW' | exact ((Qt.drewN _ _).trans (Qt.drewN _ _)).trans hqW'
          clear hqW'
          have ho := hh.out.2.1.qt hqW
          obtain ⟨u1, hs1, hu1, F1⟩ := ho.cutTo sInt (out.length) hk
          obtain ⟨u2, hs2, hu2, F2⟩ := ho.cutFrom sInt (out.length) hk
          have hckW : W.cell? ⟨blk a, ofs a + n, none⟩ = some (.int .i64 (nth l n)) := by obtain ⟨q, rfl⟩ := hqW; exact hck
          have hbW : Below w.heap.size w W := hh.out.2.2.trans (hqW.below _)
          have hszW := hbW.size
          have hob := ho.lt
          have hs1' := hs1 .i64
          have hs2' := hs2 .i64
          have HO := Lib.hid (And.intro ho (And.intro hu1 (And.intro F1 (And.intro hu2 F2))))
          have HB := Lib.hid hbW
          clear ho hu1 F1 hu2 F2 hck hqW hs1 hs2 hbW hlo
          have hN1 : ∀ k, (Value.slice s1 out.length c1).ownBlock = some k → k < W.heap.size := fun k hk => (hob k hk).2
          have hN2 : blk a < W.heap.size := (cell_lt hckW).1
          have HN := Lib.hid (And.intro hN1 hN2)
          clear hob hN1 hN2
          go_region_held3 (fun w' => OwnI w' w.heap.size 3 (.slice s1 out.length c1) out ∧ w'.cell? ⟨blk a, ofs a + n, none⟩ = some (.int .i64 (nth l n)) ∧ Below w.heap.size w w')
            (first
              | exact ⟨HO.out.1, hckW, HB.out⟩
              | exact ⟨HO.out.1.drew, hckW, HB.out.drew⟩
              | exact So_keep (by assumption) (grownBy_alloc _ _) HN.out.1 HN.out.2 hszW (Nat.le_refl _) (by simp)
              | exact So_keep (by assumption) g58 HN.out.1 HN.out.2 hszW (Nat.le_refl _) (fun b hb => (o54.lt b hb).1)
              | exact So_keep (by assumption) g54 HN.out.1 HN.out.2 hszW (Nat.le_refl _) (fun b hb => (o48.lt b hb).1)
              | exact So_keep (by assumption) g48 HN.out.1 HN.out.2 hszW (Nat.le_refl _) (fun b hb => by have hb2 := Option.some.inj hb; simp at hb2; omega))
            (first
              | (refine step_appendS (f := Value.int .i64) sInt rfl rfl (.tmp 44) (.tmp 47) rfl W.heap.size _ [] rfl _ (out.take (out.length)) rfl ?_ ?_ (fun _ => rfl) ?_ (by omega) ?_ ?_
                 · first | exact own_empty1 (by simp) (by simp) | exact (own_empty1 (by simp) (by simp)).alloc _
                 · exact HO.out.2.2.1 _ (by go_split_ands; assumption)
                 · (simp; try omega)
                 · (simp; try omega)
                 intro v48 w48 o48 g48)
              | (refine step_appendS (f := Value.int .i64) sInt rfl rfl (.tmp 48) (.tmp 53) rfl W.heap.size _ (out.take (out.length)) rfl _ [nth l n] rfl ?_ ?_ (fun _ => rfl) ?_ (by omega) ?_ ?_
                 · first | exact o48 | exact o48.alloc _
                 · exact src_one (by first | exact cell_alloc1 _ _ _ | exact g48.cell (cell_at1 (by simp)) (fun h => by have h2 := Option.some.inj h; simp at h2) | exact g48.cell (cell_at2 (by simp)) (fun h => by have h2 := Option.some.inj h; simp at h2))
                 · (simp; try omega)
                 · have := g48.size; simp at this ⊢; omega
                 intro v54 w54 o54 g54)
              | (refine step_appendS (f := Value.int .i64) sInt rfl rfl (.tmp 54) (.tmp 57) rfl W.heap.size _ _ rfl _ (out.drop (out.length)) rfl o54 ?_ (fun _ => rfl) ?_ (by omega) ?_ ?_
                 · exact HO.out.2.2.2.2 _ (by go_split_ands; assumption)
                 · (simp; try omega)
                 · have := g48.size; have := g54.size; simp at *; omega
                 intro v58 w58 o58 g58))
          all_goals
            have hfin : OwnI w58 w.heap.size 3 (.slice s1 out.length c1) out ∧ w58.cell? ⟨blk a, ofs a + n, none⟩ = some (.int .i64 (nth l n)) ∧ Below w.heap.size w w58 := by assumption
            have HQ : Hid (OwnI w58 w.heap.size 3 v58 (out.take (out.length) ++ [nth l n] ++ out.drop (out.length)) ∧ Below w.heap.size w w58) := ⟨o58.mono hszW, hfin.2.2⟩
            clear hfin o58 o54 o48 g58 g54 g48
            go_wp2_with fail
            go_roundw
            case rel => exact ⟨n + 1, _, by omega, by go_num, HS.out, HQ.out.1, HQ.out.2⟩
            case measure => simp [intOf]; omega
    · obtain rfl : n = l.length := by omega
      have HD := Lib.hid hh.out
      clear hh
      go_wp2_with fail
      go_ret
      obtain ⟨h1, h2, h3⟩ := HD.out
      exact ⟨_, out, rfl, h2, h1.asc, fun y => by rw [h1.mem y, List.take_length], h1.len, h3⟩

end Go.Proofs.Ytingmncemmipeaa
