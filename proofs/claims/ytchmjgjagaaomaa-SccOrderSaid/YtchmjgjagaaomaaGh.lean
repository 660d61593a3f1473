/- A region that draws its order, with several makes and allocs in whatever order between operations that only read and a forced tail. Of no program. -/
import Derived.Test.YtchmjgjagaaomaaGa
namespace Go.Dfl.N
open Go.Dfl

/-- One make or alloc of a region: its place, its slot, its operand's slot, what it hands back and what then lies in memory. -/
structure Mk where
  i : Nat
  d : Nat
  s : Nat
  val : Nat → Value
  Is : Nat → World → Nat → Prop
structure Mk.At (m : Mk) (P : Program) (ops : Array Oper) (base : Nat) (a0 : Act) : Prop where
  kept : ∀ w w' b, m.Is base w b → w.grownBy w' none → m.Is base w' b
  op : ∃ o, ops[m.i]? = some o ∧ o.dst = some m.d ∧ ∀ (a : Act) (w : World) (Q : Exit → Act → World → Prop), a.eval (.tmp m.s) = a0.eval (.tmp m.s) → base ≤ w.heap.size → (∀ w', m.Is base w' w.heap.size → w.grownBy w' none → w.heap.size < w'.heap.size → wpList P ops Q [] (a.put o.dst (m.val w.heap.size)) w') → wpList P ops Q [o] a w
/-- 'make([]T, n)'. -/
def mkS (i d s : Nat) (e : TypeId) (n : Nat) (z : Value) (size : Nat) : Mk := ⟨i, d, s, fun b => .slice (some ⟨b, 0, none⟩) n n, fun base w b => w.ownsRow base e size (.slice (some ⟨b, 0, none⟩) n n) n (madeCells z.cells (n * size)).toList⟩
/-- A new variable. -/
def mkA (i d s : Nat) (t : TypeId) (cs : Array Value) : Mk := ⟨i, d, s, fun b => .pointer (some ⟨b, 0, none⟩), fun _ w b => w.heap[b]? = some (.cells cs t)⟩
theorem mkS_at {P : Program} {ops : Array Oper} {base : Nat} {a0 : Act} {i d s : Nat} {t e : TypeId} {n : Nat} {z : Value} {size by8 : Nat} (hof : SliceOf P t e z size by8) (hop : ∃ o, ops[i]? = some o ∧ o.guard = none ∧ o.op = .makeSlice t (.tmp s) (.tmp s) ∧ o.dst = some d) (b1 : by8 * n ≤ 281474976710656) (b2 : n ≤ maxLen) (ev : a0.eval (.tmp s) = .int .i64 (n : Int)) : (mkS i d s e n z size).At P ops base a0 := by
  refine ⟨fun w w' b h hg => World.ownsRow.kept h hg (by right; simp [Value.ownBlock]), ?_⟩
  obtain ⟨hund, i0, hi0, hz0, hz1, hz2⟩ := hof
  obtain ⟨o, ho, hg, hop, hdst⟩ := hop
  refine ⟨o, ho, hdst, fun a w Q hev hbase hK => ?_⟩
  have hev2 : a.eval (.tmp s) = .int .i64 (n : Int) := by rw [← ev]; exact hev
  refine wpList_make_full w hg (.tmp s) (.tmp s) t hop base e i0 z size hund hi0 hz0 hz1 .i64 .i64 n n n hev2 hev2 rfl rfl (by rw [hz2]; exact b1) b2 hbase fun w' how hgr => hK w' how hgr ?_
  exact (World.ownsRow.lt how w.heap.size rfl).2
theorem mkA_at {P : Program} {ops : Array Oper} {base : Nat} {a0 : Act} {i d s : Nat} {t : TypeId} {z : Value} (hiz : (P.info? t).bind (fun i => i.zero) = some z) (hop : ∃ o, ops[i]? = some o ∧ o.guard = none ∧ o.op = .alloc t ∧ o.dst = some d) : (mkA i d s t z.cells).At P ops base a0 := by
  obtain ⟨inf, hi, hz⟩ := Option.bind_eq_some_iff.1 hiz
  refine ⟨fun w w' b h hg => ?_, ?_⟩
  · have hb : b < w.heap.size := (Array.getElem?_eq_some_iff.1 h).1
    show w'.heap[b]? = _
    rw [hg.block b hb (by simp)]; exact h
  · obtain ⟨o, ho, hg, hop, hdst⟩ := hop
    refine ⟨o, ho, hdst, fun a w Q _ _ hK => ?_⟩
    have hrun : (Instr.alloc t true (.tuple #[])).run P w = .ok (.pointer (some ⟨w.heap.size, 0, none⟩)) (w.alloc (.cells z.cells t)) := by
      simp [Instr.alloc, zeroValue, typeInfo, hi, hz, newVar]
      first | done | rfl
    refine wpList_plain hg fun K hK' => ?_
    unfold Oper.wp
    simp only [execOp, hop, Sem.run_bind, Sem.run_pure, hrun, Result.andThen_ok]
    exact hK' _ _ (hK _ (heap_alloc_new _ _) (grownBy_alloc _ _) (by rw [World.size_alloc]; omega))

def putAll (done : Nat → Option Nat) : List Mk → Act → Act
  | [], a => a
  | m :: ms, a => putAll done ms (match done m.i with | some b => a.put (some m.d) (m.val b) | none => a)
def lstAll (done : Nat → Option Nat) : List Mk → Array Bool → Array Bool
  | [], l => l
  | m :: ms, l => lstAll done ms (if (done m.i).isSome then l.setIfInBounds m.i true else l)
def undone (done : Nat → Option Nat) : List Mk → List Nat
  | [] => []
  | m :: ms => if (done m.i).isSome then undone done ms else m.i :: undone done ms

def makesB (ops : Array Oper) : List Nat → Array Bool → List Nat → Bool
  | [], listed, rem => rem.isEmpty || decide (Region.ready .any ops listed = rem)
  | i :: is, listed, rem => makesB ops is (listed.setIfInBounds i true) rem && makesB ops is listed (rem ++ [i])

theorem makesB_spec {ops : Array Oper} (done : Nat → Option Nat) : ∀ (ms : List Mk) (listed : Array Bool) (rem : List Nat), makesB ops (ms.map (·.i)) listed rem = true → rem ++ undone done ms ≠ [] → Region.ready .any ops (lstAll done ms listed) = rem ++ undone done ms
  | [], listed, rem, h, hne => by
    simp only [List.map_nil, makesB, Bool.or_eq_true, List.isEmpty_iff, decide_eq_true_eq] at h
    simp only [undone, List.append_nil] at hne ⊢
    rcases h with h | h
    · exact absurd h hne
    · exact h
  | m :: ms, listed, rem, h, hne => by
    simp only [List.map_cons, makesB, Bool.and_eq_true] at h
    simp only [undone, lstAll] at hne ⊢
    cases hd : (done m.i).isSome with
    | true =>
      simp only [hd, if_true] at hne ⊢
      exact makesB_spec done ms _ rem h.1 hne
    | false =>
      simp only [hd] at hne ⊢
      have := makesB_spec done ms listed (rem ++ [m.i]) h.2 (by simp)
      simpa using this

def setDone (done : Nat → Option Nat) (i b : Nat) : Nat → Option Nat := fun j => if j = i then some b else done j

theorem lstAll_set (done : Nat → Option Nat) (i : Nat) : ∀ (ms : List Mk) (l : Array Bool), lstAll done ms (l.setIfInBounds i true) = (lstAll done ms l).setIfInBounds i true
  | [], l => rfl
  | m :: ms, l => by
    simp only [lstAll]
    split
    · by_cases e : m.i = i
      · subst e
        rw [← lstAll_set done m.i ms]
      · rw [Array.setIfInBounds_comm _ _ (Ne.symm e), lstAll_set done i ms]
    · exact lstAll_set done i ms l
theorem lstAll_other {done : Nat → Option Nat} {i b : Nat} : ∀ {ms : List Mk} (l : Array Bool), (∀ m ∈ ms, m.i ≠ i) → lstAll (setDone done i b) ms l = lstAll done ms l
  | [], l, _ => rfl
  | m :: ms, l, h => by
    have hm := h m (by simp)
    simp only [lstAll, setDone, hm, if_false]
    exact lstAll_other _ fun x hx => h x (by simp [hx])
theorem lstAll_done {done : Nat → Option Nat} {i b : Nat} : ∀ {ms : List Mk} {l : Array Bool}, (∃ m ∈ ms, m.i = i) → lstAll (setDone done i b) ms l = (lstAll done ms l).setIfInBounds i true
  | [], l, h => by obtain ⟨m, hm, -⟩ := h; cases hm
  | m :: ms, l, h => by
    simp only [lstAll]
    by_cases hms : ∃ m ∈ ms, m.i = i
    · by_cases e : m.i = i
      · subst e
        rw [lstAll_done hms]
        simp only [setDone, if_true, Option.isSome_some]
        rw [lstAll_set]
        split
        · rw [lstAll_set]
        · apply Array.ext (by simp); intro j h1 h2; simp
      · rw [lstAll_done hms]
        simp only [setDone, e, if_false]
    · obtain ⟨m', hm', e⟩ := h
      rcases List.mem_cons.1 hm' with rfl | hm'
      · subst e
        rw [lstAll_other _ fun x hx e => hms ⟨x, hx, e⟩]
        simp only [setDone, if_true, Option.isSome_some]
        rw [lstAll_set]
        split
        · rw [lstAll_set]; apply Array.ext (by simp); intro j h1 h2; simp
        · rfl
      · exact absurd ⟨m', hm', e⟩ hms

theorem put_comm (a : Act) {d d' : Nat} (h : d ≠ d') (v v' : Value) : (a.put (some d) v).put (some d') v' = (a.put (some d') v').put (some d) v := by
  simp only [Act.put]
  rw [Array.setIfInBounds_comm _ _ h]
theorem putAll_put (done : Nat → Option Nat) (d : Nat) (v : Value) : ∀ (ms : List Mk) (a : Act), (∀ m ∈ ms, m.d ≠ d) → putAll done ms (a.put (some d) v) = (putAll done ms a).put (some d) v
  | [], a, _ => rfl
  | m :: ms, a, h => by
    simp only [putAll]
    cases done m.i with
    | none => exact putAll_put done d v ms a fun x hx => h x (by simp [hx])
    | some b =>
      simp only []
      rw [put_comm _ (Ne.symm (h m (by simp))), putAll_put done d v ms _ fun x hx => h x (by simp [hx])]
theorem putAll_other {done : Nat → Option Nat} {i b : Nat} : ∀ {ms : List Mk} (a : Act), (∀ m ∈ ms, m.i ≠ i) → putAll (setDone done i b) ms a = putAll done ms a
  | [], a, _ => rfl
  | m :: ms, a, h => by
    have hm := h m (by simp)
    simp only [putAll, setDone, hm, if_false]
    exact putAll_other _ fun x hx => h x (by simp [hx])
theorem putAll_done {done : Nat → Option Nat} {b : Nat} {m : Mk} : ∀ {ms : List Mk} (a : Act), ms.Pairwise (fun x y => x.i ≠ y.i ∧ x.d ≠ y.d) → m ∈ ms → done m.i = none → putAll (setDone done m.i b) ms a = (putAll done ms a).put (some m.d) (m.val b)
  | [], a, _, hm, _ => by cases hm
  | x :: ms, a, hp, hm, hn => by
    rw [List.pairwise_cons] at hp
    by_cases e : x = m
    · subst e
      simp only [putAll, hn]
      have h1 : setDone done x.i b x.i = some b := by simp [setDone]
      rw [h1]
      simp only []
      rw [putAll_other _ fun y hy => Ne.symm (hp.1 y hy).1, putAll_put _ _ _ _ _ fun y hy => Ne.symm (hp.1 y hy).2]
    · have hm' : m ∈ ms := by
        rcases List.mem_cons.1 hm with h | h
        · exact absurd h.symm e
        · exact h
      have hne := (hp.1 m hm').1
      simp only [putAll]
      have h1 : setDone done m.i b x.i = done x.i := by simp [setDone, hne]
      rw [h1]
      exact putAll_done _ hp.2 hm' hn
theorem eval_putAll (done : Nat → Option Nat) (s : Nat) : ∀ (ms : List Mk) (a : Act), (∀ m ∈ ms, m.d ≠ s) → (putAll done ms a).eval (.tmp s) = a.eval (.tmp s)
  | [], a, _ => rfl
  | m :: ms, a, h => by
    simp only [putAll]
    rw [eval_putAll done s ms _ fun x hx => h x (by simp [hx])]
    cases done m.i with
    | none => rfl
    | some b =>
      have := h m (by simp)
      simp [Act.put, Act.eval, Array.getD_eq_getD_getElem?, this]

theorem undone_mem {done : Nat → Option Nat} {i : Nat} : ∀ {ms : List Mk}, i ∈ undone done ms → ∃ m ∈ ms, m.i = i ∧ done i = none
  | [], h => by cases h
  | m :: ms, h => by
    simp only [undone] at h
    cases hd : done m.i with
    | some b =>
      simp only [hd, Option.isSome_some, if_true] at h
      obtain ⟨x, hx, e⟩ := undone_mem h
      exact ⟨x, by simp [hx], e⟩
    | none =>
      simp only [hd, Option.isSome_none] at h
      rcases List.mem_cons.1 h with rfl | h
      · exact ⟨m, by simp, rfl, hd⟩
      · obtain ⟨x, hx, e⟩ := undone_mem h
        exact ⟨x, by simp [hx], e⟩
theorem undone_nil {done : Nat → Option Nat} : ∀ {ms : List Mk}, undone done ms = [] → ∀ m ∈ ms, ∃ b, done m.i = some b
  | [], _, m, hm => by cases hm
  | x :: ms, h, m, hm => by
    simp only [undone] at h
    cases hd : done x.i with
    | some b =>
      simp only [hd, Option.isSome_some, if_true] at h
      rcases List.mem_cons.1 hm with rfl | hm
      · exact ⟨b, hd⟩
      · exact undone_nil h m hm
    | none => simp [hd] at h
theorem undone_len {done : Nat → Option Nat} {b : Nat} {m : Mk} : ∀ {ms : List Mk}, ms.Pairwise (fun x y => x.i ≠ y.i ∧ x.d ≠ y.d) → m ∈ ms → done m.i = none → (undone (setDone done m.i b) ms).length + 1 = (undone done ms).length
  | [], _, hm, _ => by cases hm
  | x :: ms, hp, hm, hn => by
    rw [List.pairwise_cons] at hp
    have hoth : ∀ (l : List Mk), (∀ y ∈ l, y.i ≠ m.i) → undone (setDone done m.i b) l = undone done l := by
      intro l
      induction l with
      | nil => intro _; rfl
      | cons y l ih =>
        intro hl
        have hy := hl y (by simp)
        simp only [undone, setDone, hy, if_false]
        rw [ih fun z hz => hl z (by simp [hz])]
    by_cases e : x = m
    · subst e
      simp only [undone, hn, Option.isSome_none]
      have h1 : setDone done x.i b x.i = some b := by simp [setDone]
      rw [h1, hoth ms fun y hy => Ne.symm (hp.1 y hy).1]
      simp
    · have hm' : m ∈ ms := by
        rcases List.mem_cons.1 hm with h | h
        · exact absurd h.symm e
        · exact h
      have hne := (hp.1 m hm').1
      have h1 : setDone done m.i b x.i = done x.i := by simp [setDone, hne]
      have ih := undone_len (b := b) hp.2 hm' hn
      simp only [undone, h1]
      split
      · exact ih
      · simp; omega

section
variable {P : Program} {ops : Array Oper} {Q : Exit → Act → World → Prop} {S : World → Prop}

structure MakesInv (ms : List Mk) (base : Nat) (w0 : World) (done : Nat → Option Nat) (w : World) : Prop where
  is : ∀ m ∈ ms, ∀ b, done m.i = some b → m.Is base w b ∧ w0.heap.size ≤ b ∧ b < w.heap.size
  apart : ∀ m ∈ ms, ∀ m' ∈ ms, m.i ≠ m'.i → ∀ b, done m.i = some b → done m'.i ≠ some b
  grown : w0.grownBy w none

theorem makes_any {ms : List Mk} {listed : Array Bool} {a0 : Act} {w0 : World} {fuel : Nat} (base : Nat) (hbase : base ≤ w0.heap.size) (hms : ∀ m ∈ ms, m.At P ops base a0) (hd : ms.Pairwise (fun x y => x.i ≠ y.i ∧ x.d ≠ y.d)) (hs : ∀ m ∈ ms, ∀ m' ∈ ms, m'.d ≠ m.s)
    (hB : makesB ops (ms.map (·.i)) listed [] = true) (hSk : ∀ w w', w.grownBy w' none → S w → S w')
    (K : ∀ done w', MakesInv ms base w0 done w' → (∀ m ∈ ms, ∃ b, done m.i = some b) → S w' → wpAnyH P .any ops (NoPanic Q) S fuel (lstAll done ms listed) (putAll done ms a0) w') :
    ∀ (n : Nat) (done : Nat → Option Nat) (w : World), (undone done ms).length = n → MakesInv ms base w0 done w → S w → wpAnyH P .any ops (NoPanic Q) S (n + fuel) (lstAll done ms listed) (putAll done ms a0) w := by
  intro n
  induction n with
  | zero =>
    intro done w hn hI hS
    rw [Nat.zero_add]
    exact K done w hI (undone_nil (by simpa using hn)) hS
  | succ n ih =>
    intro done w hn hI hS
    have hne : undone done ms ≠ [] := fun e => by simp [e] at hn
    have hr := makesB_spec done ms listed [] hB (by simpa using hne)
    rw [List.nil_append] at hr
    rw [show n + 1 + fuel = (n + fuel) + 1 by omega]
    refine wpAnyH_all hr hne fun i hi => ?_
    obtain ⟨m, hm, rfl, hnone⟩ := undone_mem hi
    obtain ⟨hkept, o, ho, hdst, hop⟩ := hms m hm
    refine wpOp_of_then ho ?_
    refine hop _ w _ (eval_putAll _ _ _ _ fun x hx => hs m hm x hx) (Nat.le_trans hbase hI.grown.size) ?_
    intro w' how hgr hlt
    have hS' := hSk _ _ hgr hS
    have hI' : MakesInv ms base w0 (setDone done m.i w.heap.size) w' := by
      refine ⟨fun x hx b hb => ?_, fun x hx y hy hne b hb hb' => ?_, grownBy_trans hI.grown hgr⟩
      · by_cases e : x.i = m.i
        · have hxm : x = m := by
            false_or_by_contra
            rename_i hne
            have : ∀ l : List Mk, l.Pairwise (fun x y => x.i ≠ y.i ∧ x.d ≠ y.d) → x ∈ l → m ∈ l → False := by
              intro l
              induction l with
              | nil => intro _ h; cases h
              | cons z l ih =>
                intro hp h1 h2
                rw [List.pairwise_cons] at hp
                rcases List.mem_cons.1 h1 with rfl | h1
                · rcases List.mem_cons.1 h2 with h2 | h2
                  · exact hne h2.symm
                  · exact (hp.1 m h2).1 e
                · rcases List.mem_cons.1 h2 with h2 | h2
                  · subst h2; exact (hp.1 x ‹_›).1 e.symm
                  · exact ih hp.2 ‹_› h2
            exact this ms hd hx hm
          subst hxm
          simp [setDone] at hb
          subst hb
          exact ⟨how, hI.grown.size, hlt⟩
        · simp [setDone, e] at hb
          obtain ⟨h1, h2, h3⟩ := hI.is x hx b hb
          exact ⟨(hms x hx).kept _ _ _ h1 hgr, h2, Nat.lt_of_lt_of_le h3 hgr.size⟩
      · by_cases e : x.i = m.i
        · have e' : y.i ≠ m.i := fun h => hne (e.trans h.symm)
          simp [setDone, e] at hb
          simp [setDone, e'] at hb'
          have := (hI.is y hy b hb').2.2
          omega
        · simp [setDone, e] at hb
          by_cases e' : y.i = m.i
          · simp [setDone, e'] at hb'
            have := (hI.is x hx b hb).2.2
            omega
          · simp [setDone, e'] at hb'
            exact hI.apart x hx y hy hne b hb hb'
    have := ih (setDone done m.i w.heap.size) w' (by have := undone_len (b := w.heap.size) hd hm hnone; omega) hI' hS'
    rw [lstAll_done ⟨m, hm, rfl⟩, putAll_done _ hd hm hnone] at this
    rw [hdst]
    exact ⟨hS', this⟩

/-- Heads, makes in whatever order, a forced tail. -/
def mkHB (ops : Array Oper) (ms ts : List Nat) : List Nat → Array Bool → Bool
  | [], listed => makesB ops ms listed [] && tailHB ops ts (ms.foldl (fun l i => l.setIfInBounds i true) listed)
  | i :: is, listed => (Region.ready .any ops listed).contains i && Region.free .any ops listed i && mkHB ops ms ts is (listed.setIfInBounds i true)
def makesHB (ops : Array Oper) (hs ms ts : List Nat) : Bool := Region.noSelect ops && mkHB ops ms ts hs (Array.replicate ops.size false)

theorem lstAll_all {done : Nat → Option Nat} : ∀ {ms : List Mk} {l : Array Bool}, (∀ m ∈ ms, ∃ b, done m.i = some b) → lstAll done ms l = (ms.map (·.i)).foldl (fun l i => l.setIfInBounds i true) l
  | [], l, _ => rfl
  | m :: ms, l, h => by
    obtain ⟨b, hb⟩ := h m (by simp)
    simp only [lstAll, hb, Option.isSome_some, if_true, List.map_cons, List.foldl_cons]
    exact lstAll_all fun x hx => h x (by simp [hx])
theorem putAll_map {done : Nat → Option Nat} : ∀ {ms : List Mk} {a : Act}, (∀ m ∈ ms, ∃ b, done m.i = some b) → putAll done ms a = ms.foldl (fun a m => a.put (some m.d) (m.val ((done m.i).getD 0))) a
  | [], a, _ => rfl
  | m :: ms, a, h => by
    obtain ⟨b, hb⟩ := h m (by simp)
    simp only [putAll, hb, List.foldl_cons, Option.getD_some]
    exact putAll_map fun x hx => h x (by simp [hx])

structure MakesEnd (ms : List Mk) (base : Nat) (w0 : World) (bs : Nat → Nat) (w : World) : Prop where
  is : ∀ m ∈ ms, m.Is base w (bs m.i) ∧ w0.heap.size ≤ bs m.i ∧ bs m.i < w.heap.size
  apart : ∀ m ∈ ms, ∀ m' ∈ ms, m.i ≠ m'.i → bs m.i ≠ bs m'.i
  grown : w0.grownBy w none

theorem makes_heads {ms : List Mk} {ts : List Nat} {w0 : World} (base : Nat) (hbase : base ≤ w0.heap.size) (hd : ms.Pairwise (fun x y => x.i ≠ y.i ∧ x.d ≠ y.d)) (hs : ∀ m ∈ ms, ∀ m' ∈ ms, m'.d ≠ m.s) (hsel : Region.noSelect ops = true) (hSk : ∀ w w', w.grownBy w' none → S w → S w') : ∀ (is : List Nat) (listed : Array Bool) (a : Act), mkHB ops (ms.map (·.i)) ts is listed = true → S w0 →
    wpHeads P ops S (fun a' => (∀ m ∈ ms, m.At P ops base a') ∧ ∀ bs w', MakesEnd ms base w0 bs w' → S w' → wpTailsH P ops S Q ts (ms.foldl (fun a m => a.put (some m.d) (m.val (bs m.i))) a') w') is a →
    wpAnyH P .any ops (NoPanic Q) S (is.length + (ms.length + ts.length)) listed a w0
  | [], listed, a, hB, hS, h => by
    simp only [mkHB, Bool.and_eq_true] at hB
    rw [List.length_nil, Nat.zero_add]
    have hund : (undone (fun _ => none) ms).length = ms.length := by
      clear h hB hd hs
      induction ms with
      | nil => rfl
      | cons m ms ih => simp [undone] at ih ⊢; exact ih
    have h0 : putAll (fun _ => none) ms a = a := by
      clear h hB hd hs hund
      induction ms with
      | nil => rfl
      | cons m ms ih => simpa [putAll] using ih
    have h1 : lstAll (fun _ => none) ms listed = listed := by
      clear h hB hd hs hund h0
      induction ms with
      | nil => rfl
      | cons m ms ih => simpa [lstAll] using ih
    have := makes_any (P := P) (ops := ops) (Q := Q) (S := S) (ms := ms) (listed := listed) (a0 := a) (w0 := w0) (fuel := ts.length) base hbase h.1 hd hs hB.1 hSk
      (fun done w' hI hall hS' => by
        rw [lstAll_all hall, putAll_map hall]
        refine wpAnyH_tails ts _ _ w' hB.2 (h.2 (fun i => (done i).getD 0) w' ⟨fun m hm => ?_, fun m hm m' hm' hne => ?_, hI.grown⟩ hS')
        · obtain ⟨b, hb⟩ := hall m hm
          have := hI.is m hm b hb
          simpa [hb] using this
        · obtain ⟨b, hb⟩ := hall m hm
          obtain ⟨b', hb'⟩ := hall m' hm'
          have := hI.apart m hm m' hm' hne b hb
          simp only [hb, hb', Option.getD_some]
          rintro rfl
          exact this hb')
      ms.length (fun _ => none) w0 hund ⟨fun m hm b (hb : (none : Option Nat) = some b) => (nomatch hb), fun m hm m' hm' _ b (hb : (none : Option Nat) = some b) => (nomatch hb), grownBy_refl _ _⟩ hS
    rwa [h0, h1] at this
  | i :: is, listed, a, hB, hS, h => by
    simp only [mkHB, Bool.and_eq_true] at hB
    obtain ⟨⟨hr, hf⟩, hB⟩ := hB
    obtain ⟨o, ho, v, hy, h⟩ := h
    rw [List.length_cons, show is.length + 1 + (ms.length + ts.length) = (is.length + (ms.length + ts.length)) + 1 by omega]
    exact wpAnyH_take ho hsel hf hr (fun c a w h => h) hy hS (makes_heads base hbase hd hs hsel hSk is _ _ hB hS h)

theorem wp_region_makes {id : Nat} {a : Act} {w : World} {l : List Oper} (hs : List Nat) (ms : List Mk) (ts : List Nat) (S : World → Prop) (base : Nat) (hbase : base ≤ w.heap.size) (hm : P.follows .mixedOrders = true) (hd : ms.Pairwise (fun x y => x.i ≠ y.i ∧ x.d ≠ y.d)) (hsd : ∀ m ∈ ms, ∀ m' ∈ ms, m'.d ≠ m.s)
    (hB : makesHB l.toArray hs (ms.map (·.i)) ts = true) (hl : hs.length + (ms.length + ts.length) = l.length) (hSk : ∀ w w', w.grownBy w' none → S w → S w') (hS : S w.drew)
    (h : wpHeads P l.toArray S (fun a' => (∀ m ∈ ms, m.At P l.toArray base a') ∧ ∀ bs w', MakesEnd ms base w.drew bs w' → S w' → wpTailsH P l.toArray S Q ts (ms.foldl (fun a m => a.put (some m.d) (m.val (bs m.i))) a') w') hs a) : (Code.region id l.toArray true).wp P Q a w := by
  refine wp_region_noPanic (wp_region_held (S := S) hm ?_)
  simp only [makesHB, Bool.and_eq_true] at hB
  have := makes_heads (P := P) (Q := Q) (S := S) (w0 := w.drew) base hbase hd hsd hB.1 hSk hs _ a hB.2 hS h
  rw [hl] at this
  rw [show l.toArray.size = l.length by simp] at this ⊢
  exact this
end
end Go.Dfl.N

/- A region that draws its order: makes and allocs in whatever order, and one operation that only reads and comes as soon as some of them are done. Of no program. -/
namespace Go.Dfl.N
open Go.Dfl
theorem MakesInv.step {ops : Array Oper} {P : Program} {a0 : Act} {ms : List Mk} {base : Nat} {w0 w w' : World} {done : Nat → Option Nat} (hms : ∀ m ∈ ms, m.At P ops base a0) (hd : ms.Pairwise (fun x y => x.i ≠ y.i ∧ x.d ≠ y.d)) {m : Mk} (hm : m ∈ ms) (hI : MakesInv ms base w0 done w) (how : m.Is base w' w.heap.size) (hgr : w.grownBy w' none) (hlt : w.heap.size < w'.heap.size) : MakesInv ms base w0 (setDone done m.i w.heap.size) w' := by
  refine ⟨fun x hx b hb => ?_, fun x hx y hy hne b hb hb' => ?_, grownBy_trans hI.grown hgr⟩
  · by_cases e : x.i = m.i
    · have hxm : x = m := by
        false_or_by_contra
        rename_i hne
        have : ∀ l : List Mk, l.Pairwise (fun x y => x.i ≠ y.i ∧ x.d ≠ y.d) → x ∈ l → m ∈ l → False := by
          intro l
          induction l with
          | nil => intro _ h; cases h
          | cons z l ih =>
            intro hp h1 h2
            rw [List.pairwise_cons] at hp
            rcases List.mem_cons.1 h1 with rfl | h1
            · rcases List.mem_cons.1 h2 with h2 | h2
              · exact hne h2.symm
              · exact (hp.1 m h2).1 e
            · rcases List.mem_cons.1 h2 with h2 | h2
              · subst h2; exact (hp.1 x ‹_›).1 e.symm
              · exact ih hp.2 ‹_› h2
        exact this ms hd hx hm
      subst hxm
      simp [setDone] at hb
      subst hb
      exact ⟨how, hI.grown.size, hlt⟩
    · simp [setDone, e] at hb
      obtain ⟨h1, h2, h3⟩ := hI.is x hx b hb
      exact ⟨(hms x hx).kept _ _ _ h1 hgr, h2, Nat.lt_of_lt_of_le h3 hgr.size⟩
  · by_cases e : x.i = m.i
    · have e' : y.i ≠ m.i := fun h => hne (e.trans h.symm)
      simp [setDone, e] at hb
      simp [setDone, e'] at hb'
      have := (hI.is y hy b hb').2.2
      omega
    · simp [setDone, e] at hb
      by_cases e' : y.i = m.i
      · simp [setDone, e'] at hb'
        have := (hI.is x hx b hb).2.2
        omega
      · simp [setDone, e'] at hb'
        exact hI.apart x hx y hy hne b hb hb'

def fullC (ch D : List Nat) : Bool := D.all fun i => ch.contains i
def full (done : Nat → Option Nat) (D : List Nat) : Bool := D.all fun i => (done i).isSome
def makesRB (ops : Array Oper) (j : Nat) (D : List Nat) : List Nat → Array Bool → List Nat → List Nat → Bool
  | [], l, rem, ch => if fullC ch D then (Region.ready .any ops l).contains j && Region.free .any ops l j && (rem.isEmpty || decide (Region.ready .any ops (l.setIfInBounds j true) = rem)) else (!rem.isEmpty) && decide (Region.ready .any ops l = rem)
  | i :: is, l, rem, ch => makesRB ops j D is (l.setIfInBounds i true) rem (i :: ch) && makesRB ops j D is l (rem ++ [i]) ch
def chAll (done : Nat → Option Nat) : List Mk → List Nat → List Nat
  | [], ch => ch
  | m :: ms, ch => chAll done ms (if (done m.i).isSome then m.i :: ch else ch)
theorem mem_chAll {done : Nat → Option Nat} {i : Nat} : ∀ {ms : List Mk} {ch : List Nat}, i ∈ chAll done ms ch ↔ i ∈ ch ∨ ((∃ m ∈ ms, m.i = i) ∧ (done i).isSome = true)
  | [], ch => by simp [chAll]
  | m :: ms, ch => by
    simp only [chAll]
    rw [mem_chAll]
    constructor
    · rintro (h | ⟨⟨x, hx, e⟩, h⟩)
      · split at h
        · rename_i hs
          rcases List.mem_cons.1 h with rfl | h
          · exact .inr ⟨⟨m, by simp, rfl⟩, hs⟩
          · exact .inl h
        · exact .inl h
      · exact .inr ⟨⟨x, by simp [hx], e⟩, h⟩
    · rintro (h | ⟨⟨x, hx, e⟩, h⟩)
      · refine .inl ?_
        split
        · simp [h]
        · exact h
      · rcases List.mem_cons.1 hx with rfl | hx
        · subst e; exact .inl (by rw [if_pos h]; simp)
        · exact .inr ⟨⟨x, hx, e⟩, h⟩
theorem fullC_eq {done : Nat → Option Nat} {ms : List Mk} {D : List Nat} (hD : ∀ i ∈ D, ∃ m ∈ ms, m.i = i) : fullC (chAll done ms []) D = full done D := by
  unfold fullC full
  rw [Bool.eq_iff_iff, List.all_eq_true, List.all_eq_true]
  refine ⟨fun h i hi => ?_, fun h i hi => ?_⟩
  · have h1 := h i hi
    rw [List.contains_iff_mem, mem_chAll] at h1
    rcases h1 with h1 | h1
    · cases h1
    · exact h1.2
  · rw [List.contains_iff_mem, mem_chAll]
    exact .inr ⟨hD i hi, h i hi⟩
theorem makesRB_spec {ops : Array Oper} {j : Nat} {D : List Nat} (done : Nat → Option Nat) : ∀ (ms : List Mk) (l : Array Bool) (rem ch : List Nat), makesRB ops j D (ms.map (·.i)) l rem ch = true →
    (fullC (chAll done ms ch) D = true → (Region.ready .any ops (lstAll done ms l)).contains j = true ∧ Region.free .any ops (lstAll done ms l) j = true ∧ (rem ++ undone done ms ≠ [] → Region.ready .any ops ((lstAll done ms l).setIfInBounds j true) = rem ++ undone done ms)) ∧
    (fullC (chAll done ms ch) D = false → rem ++ undone done ms ≠ [] ∧ Region.ready .any ops (lstAll done ms l) = rem ++ undone done ms)
  | [], l, rem, ch, h => by
    simp only [List.map_nil, makesRB] at h
    simp only [undone, List.append_nil, lstAll, chAll]
    refine ⟨fun hf => ?_, fun hf => ?_⟩
    · rw [if_pos hf] at h
      simp only [Bool.and_eq_true, Bool.or_eq_true, List.isEmpty_iff, decide_eq_true_eq] at h
      exact ⟨h.1.1, h.1.2, fun hne => h.2.resolve_left hne⟩
    · rw [hf] at h
      simp only [Bool.false_eq_true, if_false, Bool.and_eq_true, Bool.not_eq_true', decide_eq_true_eq] at h
      exact ⟨fun e => by rw [e] at h; simp at h, h.2⟩
  | m :: ms, l, rem, ch, h => by
    simp only [List.map_cons, makesRB, Bool.and_eq_true] at h
    simp only [undone, lstAll, chAll]
    cases hd : (done m.i).isSome with
    | true =>
      simp only [if_true]
      exact makesRB_spec done ms _ rem _ h.1
    | false =>
      have := makesRB_spec done ms l (rem ++ [m.i]) ch h.2
      simpa using this
theorem eval_put_ne (a : Act) {d s : Nat} (h : d ≠ s) (v : Value) : (a.put (some d) v).eval (.tmp s) = a.eval (.tmp s) := by
  simp [Act.put, Act.eval, Array.getD_eq_getD_getElem?, h]
theorem eval_put_same (a : Act) {d : Nat} (h : d < a.tmps.size) (v : Value) : (a.put (some d) v).eval (.tmp d) = v := by
  simp [Act.put, Act.eval, Array.getD_eq_getD_getElem?, h]
theorem put_size (a : Act) (d : Nat) (v : Value) : (a.put (some d) v).tmps.size = a.tmps.size := by simp [Act.put]
theorem putAll_size (done : Nat → Option Nat) : ∀ (ms : List Mk) (a : Act), (putAll done ms a).tmps.size = a.tmps.size
  | [], a => rfl
  | m :: ms, a => by
    simp only [putAll]
    rw [putAll_size done ms]
    cases done m.i with
    | none => rfl
    | some b => exact put_size _ _ _
theorem eval_done {done : Nat → Option Nat} {m : Mk} {b : Nat} (hb : done m.i = some b) : ∀ {ms : List Mk} {a : Act}, ms.Pairwise (fun x y => x.i ≠ y.i ∧ x.d ≠ y.d) → m ∈ ms → m.d < a.tmps.size → (putAll done ms a).eval (.tmp m.d) = m.val b
  | [], a, _, hm, _ => by cases hm
  | x :: ms, a, hp, hm, hs => by
    rw [List.pairwise_cons] at hp
    simp only [putAll]
    rcases List.mem_cons.1 hm with rfl | hm
    · rw [eval_putAll done _ ms _ fun y hy => Ne.symm (hp.1 y hy).2, hb]
      exact eval_put_same _ hs _
    · refine eval_done hb hp.2 hm ?_
      cases done x.i with
      | none => exact hs
      | some c => rw [put_size]; exact hs
section
variable {P : Program} {ops : Array Oper} {Q : Exit → Act → World → Prop} {S : World → Prop}
theorem makesR_any {ms : List Mk} {listed : Array Bool} {a0 : Act} {w0 : World} {fuel : Nat} (base : Nat) (hbase : base ≤ w0.heap.size) (hms : ∀ m ∈ ms, m.At P ops base a0) (hd : ms.Pairwise (fun x y => x.i ≠ y.i ∧ x.d ≠ y.d)) (hs : ∀ m ∈ ms, ∀ m' ∈ ms, m'.d ≠ m.s)
    {j ds : Nat} {D : List Nat} {V : (Nat → Nat) → Value} {oj : Oper} (hB : makesRB ops j D (ms.map (·.i)) listed [] [] = true) (hD : ∀ i ∈ D, ∃ m ∈ ms, m.i = i) (hsel : Region.noSelect ops = true) (hoj : ops[j]? = some oj) (hdst : oj.dst = some ds) (hds : ∀ m ∈ ms, m.d ≠ ds ∧ ds ≠ m.s)
    (hsz : ∀ m ∈ ms, m.d < a0.tmps.size) (hV : ∀ b b' : Nat → Nat, (∀ i ∈ D, b i = b' i) → V b = V b') (hY : ∀ (b : Nat → Nat) (a' : Act), (∀ m ∈ ms, m.i ∈ D → a'.eval (.tmp m.d) = m.val (b m.i)) → a'.tmps.size = a0.tmps.size → YieldsIf P ops S oj (V b) a')
    (hSk : ∀ w w', w.grownBy w' none → S w → S w')
    (K : ∀ done w', MakesInv ms base w0 done w' → (∀ m ∈ ms, ∃ b, done m.i = some b) → S w' → wpAnyH P .any ops (NoPanic Q) S fuel ((lstAll done ms listed).setIfInBounds j true) ((putAll done ms a0).put (some ds) (V fun i => (done i).getD 0)) w') :
    ∀ (n : Nat) (done : Nat → Option Nat) (w : World), (undone done ms).length = n → MakesInv ms base w0 done w → S w →
      (full done D = false → wpAnyH P .any ops (NoPanic Q) S (n + fuel + 1) (lstAll done ms listed) (putAll done ms a0) w) ∧
      (full done D = true → wpAnyH P .any ops (NoPanic Q) S (n + fuel) ((lstAll done ms listed).setIfInBounds j true) ((putAll done ms a0).put (some ds) (V fun i => (done i).getD 0)) w) := by
  intro n
  induction n with
  | zero =>
    intro done w hn hI hS
    have hall := undone_nil (List.eq_nil_of_length_eq_zero hn)
    refine ⟨fun hf => ?_, fun _ => by rw [Nat.zero_add]; exact K done w hI hall hS⟩
    have : full done D = true := by
      unfold full
      rw [List.all_eq_true]
      intro i hi
      obtain ⟨m, hm, rfl⟩ := hD i hi
      obtain ⟨b, hb⟩ := hall m hm
      rw [hb]; rfl
    rw [this] at hf; cases hf
  | succ n ih =>
    intro done w hn hI hS
    have hne : undone done ms ≠ [] := fun e => by simp [e] at hn
    obtain ⟨s1, s2⟩ := makesRB_spec done ms listed [] [] hB
    rw [fullC_eq hD, List.nil_append] at s1 s2
    refine ⟨fun hf => ?_, fun hf => ?_⟩
    · rw [show n + 1 + fuel + 1 = (n + fuel + 1) + 1 by omega]
      refine wpAnyH_all (s2 hf).2 hne fun i hi => ?_
      obtain ⟨m, hm, rfl, hnone⟩ := undone_mem hi
      obtain ⟨hkept, o, ho, hdst2, hop⟩ := hms m hm
      refine wpOp_of_then ho ?_
      refine hop _ w _ (eval_putAll _ _ _ _ fun x hx => hs m hm x hx) (Nat.le_trans hbase hI.grown.size) ?_
      intro w' how hgr hlt
      have hS' := hSk _ _ hgr hS
      have hI' := hI.step hms hd hm how hgr hlt
      obtain ⟨r1, r2⟩ := ih (setDone done m.i w.heap.size) w' (by have := undone_len (b := w.heap.size) hd hm hnone; omega) hI' hS'
      refine ⟨hS', ?_⟩
      rw [hdst2, ← putAll_done (b := w.heap.size) _ hd hm hnone, ← lstAll_done (b := w.heap.size) ⟨m, hm, rfl⟩]
      cases hf2 : full (setDone done m.i w.heap.size) D
      · exact r1 hf2
      · obtain ⟨t1, -⟩ := makesRB_spec (setDone done m.i w.heap.size) ms listed [] [] hB
        rw [fullC_eq hD, List.nil_append] at t1
        obtain ⟨t2, t3, -⟩ := t1 hf2
        refine wpAnyH_take hoj hsel t3 t2 (fun c a w h => h) (hY (fun i => ((setDone done m.i w.heap.size) i).getD 0) _ (fun x hx hxD => ?_) (putAll_size _ _ _)) hS' (by rw [hdst]; exact r2 hf2)
        unfold full at hf2
        rw [List.all_eq_true] at hf2
        obtain ⟨b, hb⟩ := Option.isSome_iff_exists.1 (hf2 _ hxD)
        rw [eval_done hb hd hx (hsz x hx), hb]; rfl
    · rw [show n + 1 + fuel = (n + fuel) + 1 by omega]
      refine wpAnyH_all ((s1 hf).2.2 hne) hne fun i hi => ?_
      obtain ⟨m, hm, rfl, hnone⟩ := undone_mem hi
      obtain ⟨hkept, o, ho, hdst2, hop⟩ := hms m hm
      refine wpOp_of_then ho ?_
      refine hop _ w _ (by rw [eval_put_ne _ (hds m hm).2]; exact eval_putAll _ _ _ _ fun x hx => hs m hm x hx) (Nat.le_trans hbase hI.grown.size) ?_
      intro w' how hgr hlt
      have hS' := hSk _ _ hgr hS
      have hI' := hI.step hms hd hm how hgr hlt
      obtain ⟨-, r2⟩ := ih (setDone done m.i w.heap.size) w' (by have := undone_len (b := w.heap.size) hd hm hnone; omega) hI' hS'
      refine ⟨hS', ?_⟩
      have hfD : ∀ i ∈ D, (done i).isSome = true := by unfold full at hf; rw [List.all_eq_true] at hf; exact hf
      have hDi : ∀ i ∈ D, setDone done m.i w.heap.size i = done i := fun i hi => by
        unfold setDone
        rw [if_neg]
        rintro rfl
        have := hfD _ hi
        rw [hnone] at this; cases this
      have hf2 : full (setDone done m.i w.heap.size) D = true := by
        unfold full
        rw [List.all_eq_true]
        exact fun i hi => by rw [hDi i hi]; exact hfD i hi
      have hjm : j ≠ m.i ∨ j = m.i := by omega
      have r3 := r2 hf2
      rw [hV _ (fun i => (done i).getD 0) (fun i hi => by rw [hDi i hi]), putAll_done _ hd hm hnone, lstAll_done ⟨m, hm, rfl⟩, put_comm _ (hds m hm).1] at r3
      rw [hdst2]
      rcases hjm with hjm | hjm
      · rw [Array.setIfInBounds_comm _ _ hjm]; exact r3
      · rw [hjm] at r3 ⊢; exact r3
/-- Heads, makes in whatever order with the reader, a forced tail. -/
def mkHRB (ops : Array Oper) (j : Nat) (D ms ts : List Nat) : List Nat → Array Bool → Bool
  | [], listed => makesRB ops j D ms listed [] [] && tailHB ops ts ((ms.foldl (fun l i => l.setIfInBounds i true) listed).setIfInBounds j true)
  | i :: is, listed => (Region.ready .any ops listed).contains i && Region.free .any ops listed i && mkHRB ops j D ms ts is (listed.setIfInBounds i true)
def makesHRB (ops : Array Oper) (j : Nat) (D hs ms ts : List Nat) : Bool := Region.noSelect ops && mkHRB ops j D ms ts hs (Array.replicate ops.size false)
/-- What is asked of the reader. -/
structure RdAt (ms : List Mk) (P : Program) (ops : Array Oper) (S : World → Prop) (j ds : Nat) (D : List Nat) (V : (Nat → Nat) → Value) (a0 : Act) : Prop where
  op : ∃ oj, ops[j]? = some oj ∧ oj.dst = some ds ∧ ∀ (b : Nat → Nat) (a' : Act), (∀ m ∈ ms, m.i ∈ D → a'.eval (.tmp m.d) = m.val (b m.i)) → a'.tmps.size = a0.tmps.size → YieldsIf P ops S oj (V b) a'
  sz : ∀ m ∈ ms, m.d < a0.tmps.size
theorem makesR_heads {ms : List Mk} {ts : List Nat} {w0 : World} (base : Nat) (hbase : base ≤ w0.heap.size) (hd : ms.Pairwise (fun x y => x.i ≠ y.i ∧ x.d ≠ y.d)) (hs : ∀ m ∈ ms, ∀ m' ∈ ms, m'.d ≠ m.s) (hsel : Region.noSelect ops = true) (hSk : ∀ w w', w.grownBy w' none → S w → S w')
    {j ds : Nat} {D : List Nat} {V : (Nat → Nat) → Value} (hD0 : D ≠ []) (hD : ∀ i ∈ D, ∃ m ∈ ms, m.i = i) (hds : ∀ m ∈ ms, m.d ≠ ds ∧ ds ≠ m.s) (hV : ∀ b b' : Nat → Nat, (∀ i ∈ D, b i = b' i) → V b = V b') : ∀ (is : List Nat) (listed : Array Bool) (a : Act), mkHRB ops j D (ms.map (·.i)) ts is listed = true → S w0 →
    wpHeads P ops S (fun a' => (∀ m ∈ ms, m.At P ops base a') ∧ RdAt ms P ops S j ds D V a' ∧ ∀ bs w', MakesEnd ms base w0 bs w' → S w' → wpTailsH P ops S Q ts ((ms.foldl (fun a m => a.put (some m.d) (m.val (bs m.i))) a').put (some ds) (V bs)) w') is a →
    wpAnyH P .any ops (NoPanic Q) S (is.length + (ms.length + ts.length + 1)) listed a w0
  | [], listed, a, hB, hS, h => by
    simp only [mkHRB, Bool.and_eq_true] at hB
    rw [List.length_nil, Nat.zero_add]
    have hund : (undone (fun _ => none) ms).length = ms.length := by
      clear h hB hd hs hD hds
      induction ms with
      | nil => rfl
      | cons m ms ih => simp [undone] at ih ⊢; exact ih
    have h0 : putAll (fun _ => none) ms a = a := by
      clear h hB hd hs hund hD hds
      induction ms with
      | nil => rfl
      | cons m ms ih => simpa [putAll] using ih
    have h1 : lstAll (fun _ => none) ms listed = listed := by
      clear h hB hd hs hund h0 hD hds
      induction ms with
      | nil => rfl
      | cons m ms ih => simpa [lstAll] using ih
    obtain ⟨⟨oj, hoj, hdst, hY⟩, hsz⟩ := h.2.1
    have := (makesR_any (P := P) (ops := ops) (Q := Q) (S := S) (ms := ms) (listed := listed) (a0 := a) (w0 := w0) (fuel := ts.length) base hbase h.1 hd hs (V := V) hB.1 hD hsel hoj hdst hds hsz hV hY hSk
      (fun done w' hI hall hS' => by
        rw [lstAll_all hall, putAll_map hall]
        refine wpAnyH_tails ts _ _ w' hB.2 (h.2.2 (fun i => (done i).getD 0) w' ⟨fun m hm => ?_, fun m hm m' hm' hne => ?_, hI.grown⟩ hS')
        · obtain ⟨b, hb⟩ := hall m hm
          have := hI.is m hm b hb
          simpa [hb] using this
        · obtain ⟨b, hb⟩ := hall m hm
          obtain ⟨b', hb'⟩ := hall m' hm'
          have := hI.apart m hm m' hm' hne b hb
          simp only [hb, hb', Option.getD_some]
          rintro rfl
          exact this hb')
      ms.length (fun _ => none) w0 hund ⟨fun m hm b (hb : (none : Option Nat) = some b) => (nomatch hb), fun m hm m' hm' _ b (hb : (none : Option Nat) = some b) => (nomatch hb), grownBy_refl _ _⟩ hS).1 (by
        cases D with
        | nil => exact absurd rfl hD0
        | cons x D => rfl)
    rwa [h0, h1] at this
  | i :: is, listed, a, hB, hS, h => by
    simp only [mkHRB, Bool.and_eq_true] at hB
    obtain ⟨⟨hr, hf⟩, hB⟩ := hB
    obtain ⟨o, ho, v, hy, h⟩ := h
    rw [List.length_cons, show is.length + 1 + (ms.length + ts.length + 1) = (is.length + (ms.length + ts.length + 1)) + 1 by omega]
    exact wpAnyH_take ho hsel hf hr (fun c a w h => h) hy hS (makesR_heads base hbase hd hs hsel hSk hD0 hD hds hV is _ _ hB hS h)
theorem wp_region_makesR {id : Nat} {a : Act} {w : World} {l : List Oper} (hs : List Nat) (ms : List Mk) (j ds : Nat) (D : List Nat) (V : (Nat → Nat) → Value) (ts : List Nat) (S : World → Prop) (base : Nat) (hbase : base ≤ w.heap.size) (hm : P.follows .mixedOrders = true) (hd : ms.Pairwise (fun x y => x.i ≠ y.i ∧ x.d ≠ y.d)) (hsd : ∀ m ∈ ms, ∀ m' ∈ ms, m'.d ≠ m.s)
    (hD0 : D ≠ []) (hD : ∀ i ∈ D, ∃ m ∈ ms, m.i = i) (hds : ∀ m ∈ ms, m.d ≠ ds ∧ ds ≠ m.s) (hV : ∀ b b' : Nat → Nat, (∀ i ∈ D, b i = b' i) → V b = V b')
    (hB : makesHRB l.toArray j D hs (ms.map (·.i)) ts = true) (hl : hs.length + (ms.length + ts.length + 1) = l.length) (hSk : ∀ w w', w.grownBy w' none → S w → S w') (hS : S w.drew)
    (h : wpHeads P l.toArray S (fun a' => (∀ m ∈ ms, m.At P l.toArray base a') ∧ RdAt ms P l.toArray S j ds D V a' ∧ ∀ bs w', MakesEnd ms base w.drew bs w' → S w' → wpTailsH P l.toArray S Q ts ((ms.foldl (fun a m => a.put (some m.d) (m.val (bs m.i))) a').put (some ds) (V bs)) w') hs a) : (Code.region id l.toArray true).wp P Q a w := by
  refine wp_region_noPanic (wp_region_held (S := S) hm ?_)
  simp only [makesHRB, Bool.and_eq_true] at hB
  have := makesR_heads (P := P) (Q := Q) (S := S) (w0 := w.drew) base hbase hd hsd hB.1 hSk hD0 hD hds hV hs _ a hB.2 hS h
  rw [hl] at this
  rw [show l.toArray.size = l.length by simp] at this ⊢
  exact this
end
end Go.Dfl.N

/- 'x[i] = append(x[i], ..)' on rows of the call's own. Of no program. -/
namespace Go.Dfl
open Go.RowKit
section
variable {α : Type} {f : α → Value} {e eo : TypeId} {w w3 : World} {base n cap : Nat} {s : Option Addr} {vs : List Value} {ll : List (List α)}
/-- The row's own block. -/
theorem OwnN.at' (h : OwnN (fun w base v (l : List α) => Own f w base e v l) w base eo (.slice s n cap) vs ll) {c : Nat} (hc : c < ll.length) : (Value.slice s n cap).ownBlock = some (blk s) ∧ base ≤ blk s ∧ blk s < w.heap.size := by
  have hob : (Value.slice s n cap).ownBlock = some (blk s) := by
    obtain ⟨a2, c2, he, -, -, h3⟩ := h.out.lst
    simp only [Value.slice.injEq] at he
    obtain ⟨rfl, -, rfl⟩ := he
    rw [(h3 c (by rw [h.len]; exact hc)).1]; rfl
  exact ⟨hob, h.foot (Kind.own f e) _ (.inl hob)⟩
/-- What an append to x[c] leaves, and the store of what it gives back. -/
theorem OwnN.app (h : OwnN (fun w base v (l : List α) => Own f w base e v l) w base eo (.slice s n cap) vs ll) {c : Nat} (hc : c < ll.length) {o : Obj} {v' : Value} {l' : List α} (hown : Own f w3 base e v' l')
    (hgr : (w.alloc o).grownBy w3 (nth vs c).ownBlock) (hat : v'.ownBlock = (nth vs c).ownBlock ∨ v'.ownBlock = some (w.alloc o).heap.size) (hcell : w.cell? ⟨blk s, ofs s + c, none⟩ = some (nth vs c)) :
    w3.cell? ⟨blk s, ofs s + c, none⟩ = some (nth vs c) ∧ w3.frozen? ⟨blk s, ofs s + c, none⟩ = false ∧
      OwnN (fun w base v (l : List α) => Own f w base e v l) (w3.setCell ⟨blk s, ofs s + c, none⟩ v') base eo (.slice s n cap) (vs.set c v') (ll.set c l') ∧
      ∀ W1, Below base W1 w → Below base W1 (w3.setCell ⟨blk s, ofs s + c, none⟩ v') := by
  have hK : Kind (fun w base v (l : List α) => Own f w base e v l) := Kind.own f e
  have hA := h.alloc hK o
  obtain ⟨hob, hb1, hb2⟩ := h.at' hc
  have hvl := h.len
  refine ⟨?_, ?_, ?_, fun W1 hb => ?_⟩
  · exact hgr.cell ((grownBy_alloc w o).cell hcell (by simp)) (fun e9 => h.apart c hc _ e9.symm hob)
  · exact (hA.outAt hc hgr).frozen (by omega) _
  · exact hA.put hK hc hgr hown (fun q hq => by
      rcases hat with e9 | e9
      · left; rw [← e9, hq]
      · right; rw [e9] at hq; have := Option.some.inj hq; omega)
  · have h0 := hb.alloc (by omega) o
    have h1 := h0.grown hgr (by rw [World.size_alloc]; omega) (fun q e9 => (hK.lt (hA.inn c hc) q e9).1)
    exact h1.setCell (p := ⟨blk s, ofs s + c, none⟩) hb1 v'
end
/-- A row of the call's own, whose slice stands in a cell of a box. -/
structure Fld {α : Type} (f : α → Value) (e : TypeId) (b j B : Nat) (l : List α) (W : World) : Prop where
  ex : ∃ v, W.cell? ⟨b, j, none⟩ = some v ∧ Own f W B e v l
  frz : W.frozen? ⟨b, j, none⟩ = false
  lt : b < B
section
variable {α : Type} {f : α → Value} {e : TypeId} {b j B : Nat} {l l' : List α} {W W' w3 : World}
theorem Fld.in (h : Fld f e b j B l W) : b < W.heap.size := by
  obtain ⟨v, h1, -⟩ := h.ex
  exact World.block_lt_of_cell? _ _ h1
theorem Fld.grown (h : Fld f e b j B l W) {row : Option Nat} (hg : W.grownBy W' row) (hr : ∀ k, row = some k → k ≠ b ∧ ∀ v, W.cell? ⟨b, j, none⟩ = some v → v.ownBlock ≠ some k) : Fld f e b j B l W' := by
  obtain ⟨v, h1, h2⟩ := h.ex
  have hne : some b ≠ row := fun e => (hr b e.symm).1 rfl
  refine ⟨⟨v, hg.cell h1 hne, h2.grown hg ?_⟩, ?_, h.lt⟩
  · cases e9 : v.ownBlock with
    | none => exact .inl rfl
    | some k => exact .inr fun e2 => (hr k e2.symm).2 v h1 e9
  · rw [World.frozen?_of_block (a := ⟨b, j, none⟩) (hg.block b h.in hne)]; exact h.frz
theorem Fld.below (h : Fld f e b j B l W) (hb : Below W.heap.size W W') : Fld f e b j B l W' := h.grown (row := none) (grownBy_below hb) (by simp)
/-- 'x.f = append(x.f, ..)'. -/
theorem Fld.app (h : Fld f e b j B l W) {v v' : Value} {o : Obj} (hv : W.cell? ⟨b, j, none⟩ = some v) (hown : Own f w3 B e v' l') (hgr : (W.alloc o).grownBy w3 v.ownBlock) :
    w3.cell? ⟨b, j, none⟩ = some v ∧ w3.frozen? ⟨b, j, none⟩ = false ∧ Fld f e b j B l' (w3.setCell ⟨b, j, none⟩ v') ∧ (∀ k u, k ≠ j → W.cell? ⟨b, k, none⟩ = some u → (w3.setCell ⟨b, j, none⟩ v').cell? ⟨b, k, none⟩ = some u) ∧
      (∀ A W1, Below A W1 W → A ≤ b → Below A W1 (w3.setCell ⟨b, j, none⟩ v')) := by
  obtain ⟨v0, h1, h2⟩ := h.ex
  obtain rfl : v0 = v := Option.some.inj (h1.symm.trans hv)
  have hlt := h.in
  have hne : some b ≠ v0.ownBlock := fun e9 => by have := (h2.lt b e9.symm).1; have := h.lt; omega
  have hA := grownBy_alloc W o
  have c3 := hgr.cell (hA.cell hv (by simp)) hne
  have f3 : w3.frozen? ⟨b, j, none⟩ = false := by
    rw [World.frozen?_of_block (a := ⟨b, j, none⟩) ((hgr.block b (by rw [World.size_alloc]; omega) hne).trans (hA.block b hlt (by simp)))]; exact h.frz
  have hne' : v'.ownBlock ≠ some b := fun e9 => by have := (hown.lt b e9).1; have := h.lt; omega
  refine ⟨c3, f3, ⟨⟨v', World.cell?_setCell_same _ _ _ (by rw [c3]), hown.setOther hne' _⟩, by rw [World.frozen?_setCell]; exact f3, h.lt⟩, fun k u hk hu => ?_, fun A W1 hb hA1 => ?_⟩
  · rw [World.cell?_setCell_other _ _ _ _ (by intro e9; have h9 := congrArg Addr.off e9; first | exact hk h9 | exact hk h9.symm)]
    exact hgr.cell (hA.cell hu (by simp)) hne
  · have hs := hb.size
    exact ((hb.alloc (by omega) o).grown hgr (by rw [World.size_alloc]; omega) (fun q e9 => by have := (h2.lt q e9).1; have := h.lt; omega)).setCell hA1 v'
end
end Go.Dfl
