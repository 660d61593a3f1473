/- The solver in memory: what its stores and appends do. -/
import Derived.Test.YtkfhopnolflchaaAndM
namespace Go.Proofs.Ytkfhopnolflchaa
open Go.RowKit Go.Dfl Go.And

/-- What nobody writes is as it was. -/
structure Ext (rl rl' : Nat → Nat) (W W' : World) : Prop where
  size : W.heap.size ≤ W'.heap.size
  same : ∀ k, k < W.heap.size → (rl k = 0 ∨ 10 ≤ rl k) → W'.heap[k]? = W.heap[k]? ∧ rl' k = rl k
theorem Ext.refl (rl : Nat → Nat) (W : World) : Ext rl rl W W := ⟨Nat.le_refl _, fun _ _ _ => ⟨rfl, rfl⟩⟩
theorem Ext.trans {r1 r2 r3 : Nat → Nat} {A B C : World} (h : Ext r1 r2 A B) (k : Ext r2 r3 B C) : Ext r1 r3 A C := by
  refine ⟨Nat.le_trans h.size k.size, fun n hn hr => ?_⟩
  obtain ⟨a1, a2⟩ := h.same n hn hr
  obtain ⟨b1, b2⟩ := k.same n (Nat.lt_of_lt_of_le hn h.size) (by rw [a2]; exact hr)
  exact ⟨b1.trans a1, b2.trans a2⟩
theorem Ext.grown {rl : Nat → Nat} {W W' : World} (h : W.grownBy W' none) : Ext rl rl W W' := ⟨h.size, fun k hk _ => ⟨h.block k hk (by simp), rfl⟩⟩
theorem Stp.ext {rl rl' : Nat → Nat} {X : Nat} {W W' : World} {row : Option Nat} (h : Stp rl rl' X W W' row) (hX : 1 ≤ X ∧ X ≤ 9) : Ext rl rl' W W' :=
  ⟨h.grown.size, fun k hk hr => ⟨h.grown.block k hk fun e => by have := h.part k e.symm; omega, h.same k hk⟩⟩
theorem lst_ext {α : Type} [Inhabited α] {f : α → Value} {rl rl' : Nat → Nat} {W W' : World} {v : Value} {l : List α} (h : Lst f W v l) (he : Ext rl rl' W W') (hr : 0 < l.length → ∀ k, v.ownBlock = some k → rl k = 0 ∨ 10 ≤ rl k) : Lst f W' v l := by
  obtain ⟨a, cap, rfl, h1, h2, h3⟩ := h
  refine ⟨a, cap, rfl, h1, h2, fun i hi => ?_⟩
  obtain ⟨g1, g2, g3⟩ := h3 i hi
  have hb := (he.same (blk a) g2 (hr (by omega) (blk a) (by rw [g1]; rfl))).1
  exact ⟨g1, Nat.lt_of_lt_of_le g2 he.size, fun j hj => by rw [World.cell?_of_block (a := ⟨blk a, ofs a + i * 1 + j, none⟩) hb]; exact g3 j hj⟩
theorem IsS.ex {rl rl' : Nat → Nat} {W W' : World} {v : Value} {p : Nat → Bool} (h : IsS rl W v p) (he : Ext rl rl' W W') : IsS rl' W' v p := by
  obtain ⟨r, h1, h2, h3, h4, h5⟩ := h
  refine ⟨r, lst_ext h1 he fun h0 k hk => .inl (h5 k hk h0), h2, h3, h4, fun k hk h0 => ?_⟩
  rw [(he.same k (Words.lt h1 h0 k hk) (.inl (h5 k hk h0))).2]; exact h5 k hk h0

theorem own_blk {f : Value → Value} {W : World} {B : Nat} {e : TypeId} {a : Option Addr} {n c : Nat} {xs : List Value} (h : Own f W B e (.slice a n c) xs) {i : Nat} (hi : i < xs.length) : (Value.slice a n c).ownBlock = some (blk a) := by
  obtain ⟨a2, c2, he, -, -, h3⟩ := h.lst
  simp at he
  obtain ⟨rfl, -, -⟩ := he
  rw [(h3 i hi).1]; rfl
theorem ownB_blk {W : World} {B : Nat} {e : TypeId} {a : Option Addr} {n c : Nat} {xs : List Bool} (h : Own Value.bool W B e (.slice a n c) xs) {i : Nat} (hi : i < xs.length) : (Value.slice a n c).ownBlock = some (blk a) := by
  obtain ⟨a2, c2, he, -, -, h3⟩ := h.lst
  simp at he
  obtain ⟨rfl, -, -⟩ := he
  rw [(h3 i hi).1]; rfl

theorem stp_set {rl : Nat → Nat} {X : Nat} {W : World} {p : Addr} {v : Value} (hX : X ≠ 0) (hp : rl p.block = X) : Stp rl rl X W (W.setCell p v) (some p.block) :=
  ⟨grownBy_setCell _ _ _, fun k hk => by simp at hk; rw [← hk]; exact hp, .inl hX, fun _ _ => rfl⟩
/-- The part that a row plays where it has moved. -/
def rol (rl : Nat → Nat) (X : Nat) (v : Value) : Nat → Nat := fun k => if v.ownBlock = some k then X else rl k
theorem stp_app {rl : Nat → Nat} {X : Nat} {W W1 : World} {v v' : Value} (hg : W.grownBy W1 v.ownBlock) (hX : X ≠ 0) (hv : ∀ k, v.ownBlock = some k → rl k = X) (hl : v'.ownBlock = v.ownBlock ∨ v'.ownBlock = some W.heap.size) : Stp rl (rol rl X v') X W W1 v.ownBlock := by
  refine ⟨hg, hv, .inl hX, fun k hk => ?_⟩
  unfold rol
  by_cases e : v'.ownBlock = some k
  · rw [if_pos e]
    rcases hl with q | q
    · rw [q] at e; exact (hv k e).symm
    · rw [q] at e; simp at e; omega
  · rw [if_neg e]
theorem rol_fr {rl : Nat → Nat} {X : Nat} {W W1 : World} {v' : Value} (h : ∀ k, W.heap.size ≤ k → rl k = 0) (hs : W.heap.size ≤ W1.heap.size) (hv : ∀ k, v'.ownBlock = some k → k < W1.heap.size) : ∀ k, W1.heap.size ≤ k → rol rl X v' k = 0 := by
  intro k hk
  unfold rol
  rw [if_neg fun e => by have := hv k e; omega]
  exact h k (by omega)
theorem rol_low {rl : Nat → Nat} {X B : Nat} {v' : Value} (h : ∀ k, rl k ≠ 0 → B ≤ k) (hv : ∀ k, v'.ownBlock = some k → B ≤ k) : ∀ k, rol rl X v' k ≠ 0 → B ≤ k := by
  intro k hk
  unfold rol at hk
  by_cases e : v'.ownBlock = some k
  · exact hv k e
  · rw [if_neg e] at hk; exact h k hk

section
variable {S : Syst} {w0 : World} {sv : Nat} {rl : Nat → Nat} {V : Vals} {st : St} {W : World}

theorem SetsC.set {N B X : Nat} {a : Option Addr} {n c : Nat} {xs : List Value} {p : Nat → Nat → Bool} (h : SetsC N rl B X W (.slice a n c) xs p) (hX : X ≠ 0) {i : Nat} (hi : i < N) {v : Value} {s : Nat → Bool} (hv : IsS rl W v s) :
    Stp rl rl X W (W.setCell ⟨blk a, ofs a + i, none⟩ v) (some (blk a)) ∧ SetsC N rl B X (W.setCell ⟨blk a, ofs a + i, none⟩ v) (.slice a n c) (xs.set i v) (upd p i s) := by
  have hil : i < xs.length := by rw [h.len]; exact hi
  have hs : Stp rl rl X W (W.setCell ⟨blk a, ofs a + i, none⟩ v) (some (blk a)) := stp_set (p := ⟨blk a, ofs a + i, none⟩) hX (h.role _ (own_blk h.own hil))
  refine ⟨hs, ⟨h.own.set i v, h.role, by simp [h.len], fun j hj => ?_⟩⟩
  rw [nth_set]
  by_cases e : i = j
  · subst e; rw [if_pos ⟨rfl, hil⟩, upd_same]; exact hv.step hs
  · rw [if_neg (by omega), upd_other _ _ _ (Ne.symm e)]; exact (h.mean j hj).step hs

theorem Mem.setSets {a : Option Addr} {n c : Nat} (h : Mem S w0 sv rl V st W) (ha : V.sets = .slice a n c) {i : Nat} (hi : i < S.N) {v : Value} {s : Nat → Bool} (hv : IsS rl W v s) :
    Mem S w0 sv rl { V with xs := V.xs.set i v } { st with p := upd st.p i s } (W.setCell ⟨blk a, ofs a + i, none⟩ v) ∧ Ext rl rl W (W.setCell ⟨blk a, ofs a + i, none⟩ v) := by
  have h2 := h.sets (by omega)
  rw [ha] at h2
  obtain ⟨hs, hc⟩ := h2.set (by omega) hi hv
  have h1 := h.step hs (by omega) (fun k hk => h.fr k (by simpa using hk)) h.low
  exact ⟨⟨fun _ => h1.box (by omega), h1.rbox, h1.lbox, fun _ => by rw [ha]; exact hc, fun _ => h1.fresh (by omega), fun _ => h1.cp (by omega), fun _ => h1.pt (by omega), fun _ => h1.ld (by omega), fun _ => h1.sr (by omega), fun _ => h1.q (by omega), fun _ => h1.todo (by omega), h1.fr, h1.bel, h1.low⟩, hs.ext (by omega)⟩
theorem Mem.setFresh {a : Option Addr} {n c : Nat} (h : Mem S w0 sv rl V st W) (ha : V.fresh = .slice a n c) {i : Nat} (hi : i < S.N) {v : Value} {s : Nat → Bool} (hv : IsS rl W v s) :
    Mem S w0 sv rl { V with ys := V.ys.set i v } { st with f := upd st.f i s } (W.setCell ⟨blk a, ofs a + i, none⟩ v) ∧ Ext rl rl W (W.setCell ⟨blk a, ofs a + i, none⟩ v) := by
  have h2 := h.fresh (by omega)
  rw [ha] at h2
  obtain ⟨hs, hc⟩ := h2.set (by omega) hi hv
  have h1 := h.step hs (by omega) (fun k hk => h.fr k (by simpa using hk)) h.low
  exact ⟨⟨fun _ => h1.box (by omega), h1.rbox, h1.lbox, fun _ => h1.sets (by omega), fun _ => by rw [ha]; exact hc, fun _ => h1.cp (by omega), fun _ => h1.pt (by omega), fun _ => h1.ld (by omega), fun _ => h1.sr (by omega), fun _ => h1.q (by omega), fun _ => h1.todo (by omega), h1.fr, h1.bel, h1.low⟩, hs.ext (by omega)⟩
theorem Mem.setQ {a : Option Addr} {n c : Nat} (h : Mem S w0 sv rl V st W) (ha : V.q = .slice a n c) {i : Nat} (hi : i < S.N) (b : Bool) :
    Mem S w0 sv rl { V with ql := V.ql.set i b } { st with q := upd st.q i b } (W.setCell ⟨blk a, ofs a + i, none⟩ (.bool b)) ∧ Ext rl rl W (W.setCell ⟨blk a, ofs a + i, none⟩ (.bool b)) := by
  have h2 := h.q (by omega)
  rw [ha] at h2
  have hil : i < V.ql.length := by rw [h2.len]; exact hi
  have hs : Stp rl rl 8 W (W.setCell ⟨blk a, ofs a + i, none⟩ (.bool b)) (some (blk a)) := stp_set (p := ⟨blk a, ofs a + i, none⟩) (by omega) (h2.role _ (ownB_blk h2.own hil))
  have h1 := h.step hs (by omega) (fun k hk => h.fr k (by simpa using hk)) h.low
  refine ⟨⟨fun _ => h1.box (by omega), h1.rbox, h1.lbox, fun _ => h1.sets (by omega), fun _ => h1.fresh (by omega), fun _ => h1.cp (by omega), fun _ => h1.pt (by omega), fun _ => h1.ld (by omega), fun _ => h1.sr (by omega), fun _ => ?_, fun _ => h1.todo (by omega), h1.fr, h1.bel, h1.low⟩, hs.ext (by omega)⟩
  rw [ha]
  refine ⟨h2.own.set i b, h2.role, by simp [h2.len], fun j hj => ?_⟩
  show nth (V.ql.set i b) j = upd st.q i b j
  rw [nth_set]
  by_cases e : i = j
  · subst e; rw [if_pos ⟨rfl, hil⟩, upd_same]
  · rw [if_neg (by omega), upd_other _ _ _ (Ne.symm e)]; exact h2.mean j hj

/-- A store into the solver's own block. -/
theorem box_set {W : World} {sv j : Nat} {cs : Array Value} {t : TypeId} {v : Value} (h : W.heap[sv]? = some (.cells cs t (0, 0))) : (W.setCell ⟨sv, j, none⟩ v).heap[sv]? = some (.cells (cs.setIfInBounds j v) t (0, 0)) := by
  simp [World.setCell, Array.getElem?_modify, h]

/-- 'v.todo = append(v.todo, i)'. -/
theorem Mem.pushTodo (h : Mem S w0 sv rl V st W) {W1 : World} {v' : Value} {i : Nat} (hg : W.grownBy W1 V.todo.ownBlock) (ho : OwnI W1 w0.heap.size 3 v' ((st.todo.map fun x : Nat => (x : Int)) ++ [(i : Int)])) (hl : v'.ownBlock = V.todo.ownBlock ∨ v'.ownBlock = some W.heap.size) :
    ∃ rl', Mem S w0 sv rl' { V with todo := v' } { st with todo := st.todo ++ [i] } (W1.setCell ⟨sv, 11, none⟩ v') ∧ Ext rl rl' W (W1.setCell ⟨sv, 11, none⟩ v') := by
  have h2 := h.todo (by omega)
  have hs := stp_app hg (X := 9) (by omega) h2.role hl
  have h1 := h.step hs (by omega) (rol_fr h.fr hg.size fun k hk => (ho.lt k hk).2) (rol_low h.low fun k hk => (ho.lt k hk).1)
  have hs2 : Stp (rol rl 9 v') (rol rl 9 v') 1 W1 (W1.setCell ⟨sv, 11, none⟩ v') (some sv) := stp_set (p := ⟨sv, 11, none⟩) (by omega) h1.rbox
  refine ⟨rol rl 9 v', ?_, (hs.ext (by omega)).trans (hs2.ext (by omega))⟩
  refine ⟨fun _ => ?_, h1.rbox, ⟨h1.lbox.1, by simpa using h1.lbox.2⟩, fun _ => (h1.sets (by omega)).step hs2 (by omega), fun _ => (h1.fresh (by omega)).step hs2 (by omega), fun _ => (h1.cp (by omega)).step hs2 (by omega), fun _ => (h1.pt (by omega)).step hs2 (by omega), fun _ => (h1.ld (by omega)).step hs2 (by omega), fun _ => (h1.sr (by omega)).step hs2 (by omega), fun _ => (h1.q (by omega)).step hs2 (by omega), fun _ => ?_, fun k hk => h1.fr k (by simpa using hk), h1.bel.setCell h1.lbox.1 _, h1.low⟩
  · rw [box_set (h1.box (by omega))]; rfl
  · have ht : TdC (rol rl 9 v') w0.heap.size W1 v' (st.todo ++ [i]) := ⟨by simpa using ho, fun k hk => by unfold rol; rw [if_pos hk]⟩
    exact ht.step hs2 (by omega)

/-- 'v.todo = nil'; the elder row stays as it is, and plays part 10. -/
theorem Mem.clearTodo (h : Mem S w0 sv rl V st W) :
    ∃ rl', Mem S w0 sv rl' { V with todo := .slice none 0 0 } { st with todo := [] } (W.setCell ⟨sv, 11, none⟩ (.slice none 0 0)) ∧ Ext rl rl' W (W.setCell ⟨sv, 11, none⟩ (.slice none 0 0)) ∧ Ints (W.setCell ⟨sv, 11, none⟩ (.slice none 0 0)) V.todo (st.todo.map fun x : Nat => (x : Int)) ∧ ∀ k, V.todo.ownBlock = some k → rl' k = 10 := by
  have h2 := h.todo (by omega)
  have hs : Stp rl rl 1 W (W.setCell ⟨sv, 11, none⟩ (.slice none 0 0)) (some sv) := stp_set (p := ⟨sv, 11, none⟩) (by omega) h.rbox
  have h1 := h.step hs (by omega) (fun k hk => h.fr k (by simpa using hk)) h.low
  have hr : ∀ k Y, Y ≠ 9 → rl k = Y → rol rl 10 V.todo k = Y := fun k Y hY hk => by
    unfold rol
    rw [if_neg fun e => hY (by rw [← hk, h2.role k e])]; exact hk
  have hI : ∀ {v : Value} {p : Nat → Bool} {W : World}, IsS rl W v p → IsS (rol rl 10 V.todo) W v p := fun ⟨r, q1, q2, q3, q4, q5⟩ => ⟨r, q1, q2, q3, q4, fun k hk h0 => hr k 0 (by omega) (q5 k hk h0)⟩
  refine ⟨rol rl 10 V.todo, ⟨fun _ => ?_, hr sv 1 (by omega) h.rbox, h1.lbox, fun _ => ?_, fun _ => ?_, fun _ => ?_, fun _ => ?_, fun _ => ?_, fun _ => ?_, fun _ => ?_, fun _ => ⟨by simpa using Own.nil _ _ _ _, fun k hk => by simp [Value.ownBlock] at hk⟩, fun k hk => ?_, h1.bel, fun k hk => ?_⟩, ?_, ?_, fun k hk => by unfold rol; rw [if_pos hk]⟩
  · rw [box_set (h.box (by omega))]; rfl
  · have := h1.sets (by omega); exact ⟨this.own, fun k hk => hr k 2 (by omega) (this.role k hk), this.len, fun i hi => hI (this.mean i hi)⟩
  · have := h1.fresh (by omega); exact ⟨this.own, fun k hk => hr k 3 (by omega) (this.role k hk), this.len, fun i hi => hI (this.mean i hi)⟩
  · have := h1.cp (by omega); exact ⟨this.own, fun k hk => hr k 4 (by omega) (this.role k hk), this.len, this.mean⟩
  · have := h1.pt (by omega); exact ⟨this.own, fun k hk => hr k 5 (by omega) (this.role k hk), this.len, fun i hi => ⟨(this.mean i hi).1, fun j hj => ⟨((this.mean i hi).2 j hj).1, hI ((this.mean i hi).2 j hj).2⟩⟩⟩
  · have := h1.ld (by omega); exact ⟨this.own, fun k hk => hr k 6 (by omega) (this.role k hk), this.len, this.mean⟩
  · have := h1.sr (by omega); exact ⟨this.own, fun k hk => hr k 7 (by omega) (this.role k hk), this.len, this.mean⟩
  · have := h1.q (by omega); exact ⟨this.own, fun k hk => hr k 8 (by omega) (this.role k hk), this.len, this.mean⟩
  · exact hr k 0 (by omega) (h1.fr k hk)
  · unfold rol at hk
    by_cases e : V.todo.ownBlock = some k
    · exact (h2.own.lt k e).1
    · rw [if_neg e] at hk; exact h.low k hk
  · refine ⟨hs.grown.size, fun k hk hor => ⟨(hs.ext (by omega)).same k hk hor |>.1, ?_⟩⟩
    rcases hor with e | e
    · rw [e]; exact hr k 0 (by omega) e
    · exact hr k (rl k) (by omega) rfl
  · exact (h2.own.grown hs.grown (hs.far h2.role (by omega))).lst

theorem rol_keep {rl : Nat → Nat} {X : Nat} {u : Value} {k : Nat} (h : rl k = X) : rol rl X u k = X := by
  unfold rol; split
  · rfl
  · exact h
theorem foot_set {v u : Value} {vs : List Value} {i k : Nat} (h : Foot v (vs.set i u) k) : Foot v vs k ∨ u.ownBlock = some k := by
  rcases h with h | ⟨j, hj, h⟩
  · exact .inl (.inl h)
  · rw [nth_set] at h
    by_cases e : i = j ∧ i < vs.length
    · rw [if_pos e] at h; exact .inr h
    · rw [if_neg e] at h; exact .inl (.inr ⟨j, by simpa using hj, h⟩)
theorem PtRel.snoc {l : List RP} {m : List (Nat × (Nat → Bool))} (h : PtRel rl W l m) {x : RP} {e : Nat × (Nat → Bool)} (h1 : x.to = (e.1 : Int)) (h2 : IsS rl W x.set e.2) : PtRel rl W (l ++ [x]) (m ++ [e]) := by
  refine ⟨by simp [h.1], fun j hj => ?_⟩
  simp at hj
  have hl := h.1
  rcases Nat.lt_or_ge j l.length with q | q
  · rw [nth_append, if_pos q, nth_append, if_pos (by omega)]; exact h.2 j q
  · obtain rfl : j = l.length := by omega
    rw [nth_append, if_neg (by omega), nth_append, if_neg (by omega), hl, Nat.sub_self]; exact ⟨h1, h2⟩
theorem LdRel.snoc {l : List RC} {m : List C} (h : LdRel l m) {x : RC} {e : C} (h1 : x.k = (e.k : Int) ∧ x.a = (e.a : Int) ∧ x.b = (e.b : Int) ∧ x.f = (e.f : Int)) : LdRel (l ++ [x]) (m ++ [e]) := by
  refine ⟨by simp [h.1], fun j hj => ?_⟩
  simp at hj
  have hl := h.1
  rcases Nat.lt_or_ge j l.length with q | q
  · rw [nth_append, if_pos q, nth_append, if_pos (by omega)]; exact h.2 j q
  · obtain rfl : j = l.length := by omega
    rw [nth_append, if_neg (by omega), nth_append, if_neg (by omega), hl, Nat.sub_self]; exact h1

theorem Mem.putCp {a : Option Addr} {n c : Nat} (h : Mem S w0 sv rl V st W) (ha : V.cp = .slice a n c) {i : Nat} (hi : i < S.N) {W1 : World} {u : Value} {x : Int} {y : Nat} (hg : W.grownBy W1 (nth V.cvs i).ownBlock) (ho : IInt W1 w0.heap.size u (nth V.cll i ++ [x]))
    (hl : u.ownBlock = (nth V.cvs i).ownBlock ∨ u.ownBlock = some W.heap.size) (hxy : x = (y : Int)) :
    ∃ rl', Mem S w0 sv rl' { V with cvs := V.cvs.set i u, cll := V.cll.set i (nth V.cll i ++ [x]) } { st with cp := upd st.cp i (st.cp i ++ [y]) } (W1.setCell ⟨blk a, ofs a + i, none⟩ u) ∧ Ext rl rl' W (W1.setCell ⟨blk a, ofs a + i, none⟩ u) := by
  have h2 := h.cp (by omega)
  rw [ha] at h2
  have hil : i < V.cll.length := by rw [h2.len]; exact hi
  have hiv : i < V.cvs.length := by rw [h2.own.len]; exact hil
  have hs := stp_app hg (X := 4) (by omega) (fun k hk => h2.role k (.inr ⟨i, hiv, hk⟩)) hl
  have hou := kInt.lt ho
  have h1 := h.step hs (by omega) (rol_fr h.fr hg.size fun k hk => (hou k hk).2) (rol_low h.low fun k hk => (hou k hk).1)
  have hob := own_blk h2.own.out hiv
  have hs2 : Stp (rol rl 4 u) (rol rl 4 u) 4 W1 (W1.setCell ⟨blk a, ofs a + i, none⟩ u) (some (blk a)) := stp_set (p := ⟨blk a, ofs a + i, none⟩) (by omega) (rol_keep (h2.role _ (.inl hob)))
  have hput := h2.own.put kInt hil hg ho (fun k hk => by
    rcases hl with e | e
    · left; rw [← e]; exact hk
    · right; rw [e] at hk; simp at hk; omega)
  refine ⟨rol rl 4 u, ?_, (hs.ext (by omega)).trans (hs2.ext (by omega))⟩
  refine ⟨fun _ => by rw [hs2.grown.block sv h1.lbox.2 (fun e => by have := hs2.part sv e.symm; rw [h1.rbox] at this; omega)]; exact h1.box (by omega), h1.rbox, ⟨h1.lbox.1, by simpa using h1.lbox.2⟩, fun _ => (h1.sets (by omega)).step hs2 (by omega), fun _ => (h1.fresh (by omega)).step hs2 (by omega), fun _ => ?_, fun _ => (h1.pt (by omega)).step hs2 (by omega), fun _ => (h1.ld (by omega)).step hs2 (by omega), fun _ => (h1.sr (by omega)).step hs2 (by omega), fun _ => (h1.q (by omega)).step hs2 (by omega), fun _ => (h1.todo (by omega)).step hs2 (by omega), fun k hk => h1.fr k (by simpa using hk), h1.bel.setCell (h2.own.out.lt _ hob).1 _, h1.low⟩
  show CpC S.N (rol rl 4 u) w0.heap.size _ V.cp (V.cvs.set i u) (V.cll.set i (nth V.cll i ++ [x])) (upd st.cp i (st.cp i ++ [y]))
  rw [ha]
  refine ⟨hput, fun k hk => ?_, by simp [h2.len], fun j hj => ?_⟩
  · rcases foot_set hk with e | e
    · exact rol_keep (h2.role k e)
    · unfold rol; rw [if_pos e]
  · rw [nth_set]
    by_cases e : i = j
    · subst e; rw [if_pos ⟨rfl, hil⟩, upd_same]; rw [h2.mean i hi, hxy]; simp
    · rw [if_neg (by omega), upd_other _ _ _ (Ne.symm e)]; exact h2.mean j hj

theorem Mem.putPt {a : Option Addr} {n c : Nat} (h : Mem S w0 sv rl V st W) (ha : V.pt = .slice a n c) {i : Nat} (hi : i < S.vars) {W1 : World} {u : Value} {x : RP} {y : Nat × (Nat → Bool)} (hg : W.grownBy W1 (nth V.pvs i).ownBlock) (ho : IPart W1 w0.heap.size u (nth V.pll i ++ [x]))
    (hl : u.ownBlock = (nth V.pvs i).ownBlock ∨ u.ownBlock = some W.heap.size) (hxy : x.to = (y.1 : Int) ∧ IsS rl W x.set y.2) :
    ∃ rl', Mem S w0 sv rl' { V with pvs := V.pvs.set i u, pll := V.pll.set i (nth V.pll i ++ [x]) } { st with pt := upd st.pt i (st.pt i ++ [y]) } (W1.setCell ⟨blk a, ofs a + i, none⟩ u) ∧ Ext rl rl' W (W1.setCell ⟨blk a, ofs a + i, none⟩ u) := by
  have h2 := h.pt (by omega)
  rw [ha] at h2
  have hil : i < V.pll.length := by rw [h2.len]; exact hi
  have hiv : i < V.pvs.length := by rw [h2.own.len]; exact hil
  have hs := stp_app hg (X := 5) (by omega) (fun k hk => h2.role k (.inr ⟨i, hiv, hk⟩)) hl
  have hou := kPart.lt ho
  have h1 := h.step hs (by omega) (rol_fr h.fr hg.size fun k hk => (hou k hk).2) (rol_low h.low fun k hk => (hou k hk).1)
  have hob := own_blk h2.own.out hiv
  have hs2 : Stp (rol rl 5 u) (rol rl 5 u) 5 W1 (W1.setCell ⟨blk a, ofs a + i, none⟩ u) (some (blk a)) := stp_set (p := ⟨blk a, ofs a + i, none⟩) (by omega) (rol_keep (h2.role _ (.inl hob)))
  have hput := h2.own.put kPart hil hg ho (fun k hk => by
    rcases hl with e | e
    · left; rw [← e]; exact hk
    · right; rw [e] at hk; simp at hk; omega)
  refine ⟨rol rl 5 u, ?_, (hs.ext (by omega)).trans (hs2.ext (by omega))⟩
  refine ⟨fun _ => by rw [hs2.grown.block sv h1.lbox.2 (fun e => by have := hs2.part sv e.symm; rw [h1.rbox] at this; omega)]; exact h1.box (by omega), h1.rbox, ⟨h1.lbox.1, by simpa using h1.lbox.2⟩, fun _ => (h1.sets (by omega)).step hs2 (by omega), fun _ => (h1.fresh (by omega)).step hs2 (by omega), fun _ => (h1.cp (by omega)).step hs2 (by omega), fun _ => ?_, fun _ => (h1.ld (by omega)).step hs2 (by omega), fun _ => (h1.sr (by omega)).step hs2 (by omega), fun _ => (h1.q (by omega)).step hs2 (by omega), fun _ => (h1.todo (by omega)).step hs2 (by omega), fun k hk => h1.fr k (by simpa using hk), h1.bel.setCell (h2.own.out.lt _ hob).1 _, h1.low⟩
  show PtC S.vars (rol rl 5 u) w0.heap.size _ V.pt (V.pvs.set i u) (V.pll.set i (nth V.pll i ++ [x])) (upd st.pt i (st.pt i ++ [y]))
  rw [ha]
  refine ⟨hput, fun k hk => ?_, by simp [h2.len], fun j hj => ?_⟩
  · rcases foot_set hk with e | e
    · exact rol_keep (h2.role k e)
    · unfold rol; rw [if_pos e]
  · rw [nth_set]
    by_cases e : i = j
    · subst e; rw [if_pos ⟨rfl, hil⟩, upd_same]; exact (((h2.mean i hi).step hs).step hs2).snoc hxy.1 ((hxy.2.step hs).step hs2)
    · rw [if_neg (by omega), upd_other _ _ _ (Ne.symm e)]; exact ((h2.mean j hj).step hs).step hs2

theorem Mem.putLd {a : Option Addr} {n c : Nat} (h : Mem S w0 sv rl V st W) (ha : V.ld = .slice a n c) {i : Nat} (hi : i < S.vars) {W1 : World} {u : Value} {x : RC} {y : C} (hg : W.grownBy W1 (nth V.lvs i).ownBlock) (ho : ICon W1 w0.heap.size u (nth V.lll i ++ [x]))
    (hl : u.ownBlock = (nth V.lvs i).ownBlock ∨ u.ownBlock = some W.heap.size) (hxy : x.k = (y.k : Int) ∧ x.a = (y.a : Int) ∧ x.b = (y.b : Int) ∧ x.f = (y.f : Int)) :
    ∃ rl', Mem S w0 sv rl' { V with lvs := V.lvs.set i u, lll := V.lll.set i (nth V.lll i ++ [x]) } { st with ld := upd st.ld i (st.ld i ++ [y]) } (W1.setCell ⟨blk a, ofs a + i, none⟩ u) ∧ Ext rl rl' W (W1.setCell ⟨blk a, ofs a + i, none⟩ u) := by
  have h2 := h.ld (by omega)
  rw [ha] at h2
  have hil : i < V.lll.length := by rw [h2.len]; exact hi
  have hiv : i < V.lvs.length := by rw [h2.own.len]; exact hil
  have hs := stp_app hg (X := 6) (by omega) (fun k hk => h2.role k (.inr ⟨i, hiv, hk⟩)) hl
  have hou := kCon.lt ho
  have h1 := h.step hs (by omega) (rol_fr h.fr hg.size fun k hk => (hou k hk).2) (rol_low h.low fun k hk => (hou k hk).1)
  have hob := own_blk h2.own.out hiv
  have hs2 : Stp (rol rl 6 u) (rol rl 6 u) 6 W1 (W1.setCell ⟨blk a, ofs a + i, none⟩ u) (some (blk a)) := stp_set (p := ⟨blk a, ofs a + i, none⟩) (by omega) (rol_keep (h2.role _ (.inl hob)))
  have hput := h2.own.put kCon hil hg ho (fun k hk => by
    rcases hl with e | e
    · left; rw [← e]; exact hk
    · right; rw [e] at hk; simp at hk; omega)
  refine ⟨rol rl 6 u, ?_, (hs.ext (by omega)).trans (hs2.ext (by omega))⟩
  refine ⟨fun _ => by rw [hs2.grown.block sv h1.lbox.2 (fun e => by have := hs2.part sv e.symm; rw [h1.rbox] at this; omega)]; exact h1.box (by omega), h1.rbox, ⟨h1.lbox.1, by simpa using h1.lbox.2⟩, fun _ => (h1.sets (by omega)).step hs2 (by omega), fun _ => (h1.fresh (by omega)).step hs2 (by omega), fun _ => (h1.cp (by omega)).step hs2 (by omega), fun _ => (h1.pt (by omega)).step hs2 (by omega), fun _ => ?_, fun _ => (h1.sr (by omega)).step hs2 (by omega), fun _ => (h1.q (by omega)).step hs2 (by omega), fun _ => (h1.todo (by omega)).step hs2 (by omega), fun k hk => h1.fr k (by simpa using hk), h1.bel.setCell (h2.own.out.lt _ hob).1 _, h1.low⟩
  show LdC S.vars (rol rl 6 u) w0.heap.size 6 _ V.ld (V.lvs.set i u) (V.lll.set i (nth V.lll i ++ [x])) (upd st.ld i (st.ld i ++ [y]))
  rw [ha]
  refine ⟨hput, fun k hk => ?_, by simp [h2.len], fun j hj => ?_⟩
  · rcases foot_set hk with e | e
    · exact rol_keep (h2.role k e)
    · unfold rol; rw [if_pos e]
  · rw [nth_set]
    by_cases e : i = j
    · subst e; rw [if_pos ⟨rfl, hil⟩, upd_same]; exact (h2.mean i hi).snoc hxy
    · rw [if_neg (by omega), upd_other _ _ _ (Ne.symm e)]; exact h2.mean j hj

theorem Mem.putSr {a : Option Addr} {n c : Nat} (h : Mem S w0 sv rl V st W) (ha : V.sr = .slice a n c) {i : Nat} (hi : i < S.vars) {W1 : World} {u : Value} {x : RC} {y : C} (hg : W.grownBy W1 (nth V.svs i).ownBlock) (ho : ICon W1 w0.heap.size u (nth V.sll i ++ [x]))
    (hl : u.ownBlock = (nth V.svs i).ownBlock ∨ u.ownBlock = some W.heap.size) (hxy : x.k = (y.k : Int) ∧ x.a = (y.a : Int) ∧ x.b = (y.b : Int) ∧ x.f = (y.f : Int)) :
    ∃ rl', Mem S w0 sv rl' { V with svs := V.svs.set i u, sll := V.sll.set i (nth V.sll i ++ [x]) } { st with sr := upd st.sr i (st.sr i ++ [y]) } (W1.setCell ⟨blk a, ofs a + i, none⟩ u) ∧ Ext rl rl' W (W1.setCell ⟨blk a, ofs a + i, none⟩ u) := by
  have h2 := h.sr (by omega)
  rw [ha] at h2
  have hil : i < V.sll.length := by rw [h2.len]; exact hi
  have hiv : i < V.svs.length := by rw [h2.own.len]; exact hil
  have hs := stp_app hg (X := 7) (by omega) (fun k hk => h2.role k (.inr ⟨i, hiv, hk⟩)) hl
  have hou := kCon.lt ho
  have h1 := h.step hs (by omega) (rol_fr h.fr hg.size fun k hk => (hou k hk).2) (rol_low h.low fun k hk => (hou k hk).1)
  have hob := own_blk h2.own.out hiv
  have hs2 : Stp (rol rl 7 u) (rol rl 7 u) 7 W1 (W1.setCell ⟨blk a, ofs a + i, none⟩ u) (some (blk a)) := stp_set (p := ⟨blk a, ofs a + i, none⟩) (by omega) (rol_keep (h2.role _ (.inl hob)))
  have hput := h2.own.put kCon hil hg ho (fun k hk => by
    rcases hl with e | e
    · left; rw [← e]; exact hk
    · right; rw [e] at hk; simp at hk; omega)
  refine ⟨rol rl 7 u, ?_, (hs.ext (by omega)).trans (hs2.ext (by omega))⟩
  refine ⟨fun _ => by rw [hs2.grown.block sv h1.lbox.2 (fun e => by have := hs2.part sv e.symm; rw [h1.rbox] at this; omega)]; exact h1.box (by omega), h1.rbox, ⟨h1.lbox.1, by simpa using h1.lbox.2⟩, fun _ => (h1.sets (by omega)).step hs2 (by omega), fun _ => (h1.fresh (by omega)).step hs2 (by omega), fun _ => (h1.cp (by omega)).step hs2 (by omega), fun _ => (h1.pt (by omega)).step hs2 (by omega), fun _ => (h1.ld (by omega)).step hs2 (by omega), fun _ => ?_, fun _ => (h1.q (by omega)).step hs2 (by omega), fun _ => (h1.todo (by omega)).step hs2 (by omega), fun k hk => h1.fr k (by simpa using hk), h1.bel.setCell (h2.own.out.lt _ hob).1 _, h1.low⟩
  show LdC S.vars (rol rl 7 u) w0.heap.size 7 _ V.sr (V.svs.set i u) (V.sll.set i (nth V.sll i ++ [x])) (upd st.sr i (st.sr i ++ [y]))
  rw [ha]
  refine ⟨hput, fun k hk => ?_, by simp [h2.len], fun j hj => ?_⟩
  · rcases foot_set hk with e | e
    · exact rol_keep (h2.role k e)
    · unfold rol; rw [if_pos e]
  · rw [nth_set]
    by_cases e : i = j
    · subst e; rw [if_pos ⟨rfl, hil⟩, upd_same]; exact (h2.mean i hi).snoc hxy
    · rw [if_neg (by omega), upd_other _ _ _ (Ne.symm e)]; exact h2.mean j hj

end
end Go.Proofs.Ytkfhopnolflchaa
