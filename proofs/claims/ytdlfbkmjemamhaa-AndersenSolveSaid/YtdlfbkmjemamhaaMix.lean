/- A region that draws its order: operations that only read come first, whatever the order; the others come in one order; what was read must stay until the last of them. Of no program. -/
import Derived.Test.YtdlfbkmjemamhaaBase
import Derived.StillTail
import Derived.OrdersHeld
import Derived.Deep.RegionHeld3
namespace Go.Dfl

section
variable {P : Program} {ops : Array Oper} {Q : Exit → Act → World → Prop} {md : Region.Mode} {S : World → Prop} {n : Nat}

/-- Whatever order is picked from here on; S holds behind every operation but the last. -/
def wpAnyT (P : Program) (md : Region.Mode) (ops : Array Oper) (Q : Exit → Act → World → Prop) (S : World → Prop) (n : Nat) : Nat → Array Bool → Act → World → Prop
  | 0, listed, a, w => Region.ready md ops listed = [] ∧ Q .normal a w
  | fuel + 1, listed, a, w =>
    (Region.ready md ops listed = [] → Q .normal a w) ∧
    ∀ i ∈ Region.ready md ops listed, wpOp P ops Q i (fun a' w' => (i < n → S w') ∧ wpAnyT P md ops Q S n fuel (listed.setIfInBounds i true) a' w') a w

theorem wpAny_of_T : ∀ (fuel : Nat) (listed : Array Bool) (a : Act) (w : World), wpAnyT P md ops Q S n fuel listed a w → wpAny P md ops Q fuel listed a w
  | 0, _, _, _, h => h
  | fuel + 1, _, _, _, h => ⟨h.1, fun i hi => wpOp_mono (fun a' w' h' => wpAny_of_T fuel _ a' w' h'.2) (h.2 i hi)⟩

theorem wpAnyT_first {i : Nat} {oi : Oper} {v : Value} (hi : ops[i]? = some oi) (hsel : ∀ (j : Nat) (o : Oper) cs b, ops[j]? = some o → o.op ≠ .select cs b)
    (hQ : ∀ c a w, Q (.panic c) (a.put oi.dst v) w → Q (.panic c) a w)
    (hs : Region.sinkB md ops n = true) (hc : Region.chainB md ops n = true) (hn : n < ops.size) (hin : i < n) :
    ∀ (fuel : Nat) (listed : Array Bool) (a : Act) (w : World), HeadInv md ops n listed →
      (∀ j oj, ops[j]? = some oj → j ≠ i → listed.getD j true = false → (∀ e ∈ oj.after, Region.binds md e = true → e.on ≠ i) → oi.apart ops oj = true) →
      i ∈ Region.ready md ops listed → YieldsIf P ops S oi v a → S w →
      wpAnyT P md ops Q S n fuel (listed.setIfInBounds i true) (a.put oi.dst v) w → wpAnyT P md ops Q S n (fuel + 1) listed a w := by
  intro fuel
  induction fuel with
  | zero =>
    intro listed a w _ _ hr hy hS H
    refine ⟨fun h => (by rw [h] at hr; cases hr), fun j hj => ?_⟩
    by_cases hji : j = i
    · subst hji; exact hy.wpOp hi hS ⟨fun _ => hS, H⟩
    · have := ready_mono hj hji
      rw [H.1] at this
      cases this
  | succ fuel ih =>
    intro listed a w inv hfree hr hy hS H
    refine ⟨fun h => (by rw [h] at hr; cases hr), fun j hj => ?_⟩
    by_cases hji : j = i
    · subst hji; exact hy.wpOp hi hS ⟨fun _ => hS, H⟩
    · have hun := (mem_ready.1 hr).1
      have hjn : j < n := by
        rcases Nat.lt_or_ge j n with h | h
        · exact h
        · exact absurd hj (tail_waits hs hc hn inv _ i rfl hin hun j h)
      have h1 := H.2 j (ready_mono hj hji)
      obtain ⟨hjun, oj, hoj, hall⟩ := mem_ready.1 hj
      have hnot : ∀ e ∈ oj.after, Region.binds md e = true → e.on ≠ i := fun e he hb heq => by
        have h1 := hall e he hb
        rw [heq, getD_both hun] at h1
        cases h1
      have h2 := wpOp_putIf hoj (hfree j oj hoj hji hjun hnot) (fun cs b => hsel i oi cs b hi) (fun cs b => hsel j oj cs b hoj) hQ hy h1
      have hfree' : ∀ k ok, ops[k]? = some ok → k ≠ i → (listed.setIfInBounds j true).getD k true = false →
          (∀ e ∈ ok.after, Region.binds md e = true → e.on ≠ i) → oi.apart ops ok = true := fun k ok hk hki hun hno => by
        refine hfree k ok hk hki ?_ hno
        by_cases hjk : j = k
        · subst hjk; exact hjun
        · rw [getD_set_ne true hjk] at hun; exact hun
      refine wpOp_mono (fun a' w' h3 => ⟨h3.2.1, ih (listed.setIfInBounds j true) a' w' (inv.set hj hjn) hfree' (ready_mono hr (Ne.symm hji)) h3.1 (h3.2.1 hjn) ?_⟩) h2
      rw [Array.setIfInBounds_comm _ _ hji]
      exact h3.2.2

/-- The operations that only read, one after the other. -/
def wpHeads (P : Program) (ops : Array Oper) (S : World → Prop) (K : Act → Prop) : List Nat → Act → Prop
  | [], a => K a
  | i :: is, a => ∃ o, ops[i]? = some o ∧ ∃ v, YieldsIf P ops S o v a ∧ wpHeads P ops S K is (a.put o.dst v)

theorem wpHeads_cons {K : Act → Prop} {i : Nat} {is : List Nat} {a : Act} {o : Oper} {v : Value} (ho : ops[i]? = some o) (hy : YieldsIf P ops S o v a) (h : wpHeads P ops S K is (a.put o.dst v)) : wpHeads P ops S K (i :: is) a :=
  ⟨o, ho, v, hy, h⟩
theorem wpHeads_nil {K : Act → Prop} {a : Act} (h : K a) : wpHeads P ops S K [] a := h

/-- K behind a normal end; no panic. -/
def ThenQ (K : Act → World → Prop) (Q : Exit → Act → World → Prop) : Exit → Act → World → Prop
  | .normal, a, w => K a w
  | .panic _, _, _ => False
  | e, a, w => Q e a w

theorem thenQ_mk {K : Act → World → Prop} {a : Act} {w : World} (h : K a w) : ThenQ K Q .normal a w := h
theorem tail_mk {S : World → Prop} {K : Act → World → Prop} {a : Act} {w : World} (h1 : S w) (h2 : K a w) : ThenQ (fun a w => S w ∧ K a w) Q .normal a w := ⟨h1, h2⟩

/-- A world under a name, with what is kept of it. -/
theorem K_gen {K : Act → World → Prop} {a : Act} {w : World} (p : World → Prop) (hw : p w) (h : ∀ W, p W → K a W) : K a w := h w hw

/-- The others, in their order. -/
def wpTails (P : Program) (ops : Array Oper) (S : World → Prop) (Q : Exit → Act → World → Prop) : List Nat → Act → World → Prop
  | [], a, w => Q .normal a w
  | t :: ts, a, w => ∃ o, ops[t]? = some o ∧ wpList P ops (ThenQ (fun a' w' => (ts ≠ [] → S w') ∧ wpTails P ops S Q ts a' w') Q) [o] a w

theorem wpTails_cons {t t2 : Nat} {ts : List Nat} {a : Act} {w : World} {o : Oper} (ho : ops[t]? = some o) (h : wpList P ops (ThenQ (fun a' w' => S w' ∧ wpTails P ops S Q (t2 :: ts) a' w') Q) [o] a w) : wpTails P ops S Q (t :: t2 :: ts) a w := by
  refine ⟨o, ho, ?_⟩
  have e : (fun (a' : Act) (w' : World) => ((t2 :: ts) ≠ [] → S w') ∧ wpTails P ops S Q (t2 :: ts) a' w') = (fun a' w' => S w' ∧ wpTails P ops S Q (t2 :: ts) a' w') := by
    funext a' w'; simp
  rw [e]; exact h
theorem wpTails_one {t : Nat} {a : Act} {w : World} {o : Oper} (ho : ops[t]? = some o) (h : wpList P ops (ThenQ (fun a' w' => Q .normal a' w') Q) [o] a w) : wpTails P ops S Q [t] a w := by
  refine ⟨o, ho, ?_⟩
  have e : (fun (a' : Act) (w' : World) => (([] : List Nat) ≠ [] → S w') ∧ wpTails P ops S Q [] a' w') = (fun a' w' => Q .normal a' w') := by
    funext a' w'; simp [wpTails]
  rw [e]; exact h

theorem Oper.wp_monoQ {o : Oper} {a : Act} {w : World} {K : Act → World → Prop} {Q Q' : Exit → Act → World → Prop} (hp : ∀ c a w, Q (.panic c) a w → Q' (.panic c) a w) (hl : LetsOut Q → LetsOut Q')
    (hh : o.wp P a w K Q) : o.wp P a w K Q' := by
  unfold Oper.wp at *
  generalize (execOp a.eval o).run P w = r at *
  cases r with
  | ok n w' =>
    cases n <;> simp only [Oper.upon] at hh ⊢ <;>
      first
        | exact hh
        | exact Calls.mono hh (fun e w'' he => by cases e <;> first | exact he | exact hp _ _ _ he | exact hl he)
  | halt x w' => cases x <;> simp only [Oper.upon] at hh ⊢ <;> first | exact hh | exact hp _ _ _ hh

theorem wpOp_of_then {i : Nat} {o : Oper} {K : Act → World → Prop} {a : Act} {w : World} (ho : ops[i]? = some o) (h : wpList P ops (ThenQ K Q) [o] a w) : wpOp P ops (NoPanic Q) i K a w := by
  unfold wpOp
  simp only [ho]
  unfold wpList at h
  have hl : LetsOut (ThenQ K Q) → LetsOut (NoPanic Q) := fun ⟨a, w, h⟩ => ⟨a, w, h⟩
  split
  · rename_i hw
    rw [if_pos hw] at h
    rcases h with h | ⟨h1, h2⟩
    · exact .inl (Oper.wp_monoQ (fun c a w h => by cases h) hl (Oper.wp_mono (fun a' w' h' => h') h))
    · exact .inr ⟨h1, hl h2⟩
  · rename_i hw
    rw [if_neg hw] at h
    exact h

/-- The order of the tail. -/
def tailB (ops : Array Oper) : List Nat → Array Bool → Bool
  | [], listed => (Region.ready .any ops listed).isEmpty
  | t :: ts, listed => decide (Region.ready .any ops listed = [t]) && (!ts.isEmpty || decide (t + 1 = ops.size)) && tailB ops ts (listed.setIfInBounds t true)
def headB (ops : Array Oper) (ts : List Nat) : List Nat → Array Bool → Bool
  | [], listed => tailB ops ts listed
  | i :: is, listed => decide (i + 1 < ops.size) && (Region.ready .any ops listed).contains i && Region.free .any ops listed i && headB ops ts is (listed.setIfInBounds i true)
def mixB (ops : Array Oper) (hs ts : List Nat) : Bool :=
  Region.noSelect ops && decide (0 < ops.size) && Region.sinkB .any ops (ops.size - 1) && headB ops ts hs (Array.replicate ops.size false)

theorem wpAnyT_tails : ∀ (ts : List Nat) (listed : Array Bool) (a : Act) (w : World), tailB ops ts listed = true → wpTails P ops S Q ts a w →
    wpAnyT P .any ops (NoPanic Q) S (ops.size - 1) ts.length listed a w
  | [], listed, a, w, hB, h => ⟨by simpa [tailB] using hB, h⟩
  | t :: ts, listed, a, w, hB, h => by
    simp only [tailB, Bool.and_eq_true, decide_eq_true_eq] at hB
    obtain ⟨⟨hr, hl⟩, hB⟩ := hB
    obtain ⟨o, ho, h⟩ := h
    refine ⟨fun h0 => (by rw [hr] at h0; cases h0), fun i hi => ?_⟩
    rw [hr] at hi
    obtain rfl : i = t := by simpa using hi
    refine wpOp_mono (fun a' w' h' => ⟨fun hlt => ?_, wpAnyT_tails ts _ a' w' hB h'.2⟩) (wpOp_of_then ho h)
    refine h'.1 fun e => ?_
    subst e
    simp at hl
    omega

theorem wpAnyT_heads {ts : List Nat} (hsel : Region.noSelect ops = true) (hs : Region.sinkB .any ops (ops.size - 1) = true) (hn : 0 < ops.size) : ∀ (is : List Nat) (listed : Array Bool) (a : Act) (w : World), HeadInv .any ops (ops.size - 1) listed →
    headB ops ts is listed = true → S w → wpHeads P ops S (fun a' => wpTails P ops S Q ts a' w) is a →
    wpAnyT P .any ops (NoPanic Q) S (ops.size - 1) (is.length + ts.length) listed a w
  | [], listed, a, w, _, hB, _, h => by
    rw [List.length_nil, Nat.zero_add]
    exact wpAnyT_tails ts listed a w hB h
  | i :: is, listed, a, w, inv, hB, hS, h => by
    simp only [headB, Bool.and_eq_true, decide_eq_true_eq] at hB
    obtain ⟨⟨⟨hi, hr⟩, hf⟩, hB⟩ := hB
    obtain ⟨o, ho, v, hy, h⟩ := h
    have hr' : i ∈ Region.ready .any ops listed := by simpa using hr
    rw [List.length_cons, show is.length + 1 + ts.length = (is.length + ts.length) + 1 by omega]
    refine wpAnyT_first ho (Region.noSelect_spec hsel) (fun c a w h => h) hs ?_ (by omega) (by omega) _ listed a w inv (Region.free_spec ho hf) hr' hy hS (wpAnyT_heads hsel hs hn is _ _ w (inv.set hr' (by omega)) hB hS h)
    unfold Region.chainB
    rw [List.all_eq_true]
    intro t ht
    have := List.mem_range.1 ht
    simp; omega

theorem wp_region_mix {id : Nat} {a : Act} {w : World} {l : List Oper} (hs ts : List Nat) (S : World → Prop) (hm : P.follows .mixedOrders = true) (hB : mixB l.toArray hs ts = true) (hl : hs.length + ts.length = l.length) (hS : S w.drew)
    (h : wpHeads P l.toArray S (fun a' => wpTails P l.toArray S Q ts a' w.drew) hs a) : (Code.region id l.toArray true).wp P Q a w := by
  refine wp_region_noPanic (wp_region_any hm (wpAny_of_T (S := S) (n := l.toArray.size - 1) _ _ _ _ ?_))
  simp only [mixB, Bool.and_eq_true, decide_eq_true_eq] at hB
  obtain ⟨⟨⟨h1, h2⟩, h3⟩, h4⟩ := hB
  have inv0 : HeadInv .any l.toArray (l.toArray.size - 1) (Array.replicate l.toArray.size false) :=
    ⟨by simp, fun j oj _ hl => (by rw [getD_replicate_false] at hl; cases hl), fun t _ ht => getD_in (by simpa using ht) (getD_replicate_false _ _)⟩
  have := wpAnyT_heads (P := P) (Q := Q) (S := S) h1 h3 h2 hs _ a w.drew inv0 h4 hS h
  rw [hl] at this
  rw [show l.toArray.size = l.length by simp] at this ⊢
  exact this

/-! ### The same where nothing waits for all: S must stay to the very end -/
def wpTailsH (P : Program) (ops : Array Oper) (S : World → Prop) (Q : Exit → Act → World → Prop) : List Nat → Act → World → Prop
  | [], a, w => Q .normal a w
  | t :: ts, a, w => ∃ o, ops[t]? = some o ∧ wpList P ops (ThenQ (fun a' w' => S w' ∧ wpTailsH P ops S Q ts a' w') Q) [o] a w
theorem wpTailsH_cons {t : Nat} {ts : List Nat} {a : Act} {w : World} {o : Oper} (ho : ops[t]? = some o) (h : wpList P ops (ThenQ (fun a' w' => S w' ∧ wpTailsH P ops S Q ts a' w') Q) [o] a w) : wpTailsH P ops S Q (t :: ts) a w := ⟨o, ho, h⟩
theorem wpTailsH_nil {a : Act} {w : World} (h : Q .normal a w) : wpTailsH P ops S Q [] a w := h

def tailHB (ops : Array Oper) : List Nat → Array Bool → Bool
  | [], listed => (Region.ready .any ops listed).isEmpty
  | t :: ts, listed => decide (Region.ready .any ops listed = [t]) && tailHB ops ts (listed.setIfInBounds t true)
def headHB (ops : Array Oper) (ts : List Nat) : List Nat → Array Bool → Bool
  | [], listed => tailHB ops ts listed
  | i :: is, listed => (Region.ready .any ops listed).contains i && Region.free .any ops listed i && headHB ops ts is (listed.setIfInBounds i true)
def mixHB (ops : Array Oper) (hs ts : List Nat) : Bool := Region.noSelect ops && headHB ops ts hs (Array.replicate ops.size false)

theorem wpAnyH_tails : ∀ (ts : List Nat) (listed : Array Bool) (a : Act) (w : World), tailHB ops ts listed = true → wpTailsH P ops S Q ts a w → wpAnyH P .any ops (NoPanic Q) S ts.length listed a w
  | [], listed, a, w, hB, h => ⟨by simpa [tailHB] using hB, h⟩
  | t :: ts, listed, a, w, hB, h => by
    simp only [tailHB, Bool.and_eq_true, decide_eq_true_eq] at hB
    obtain ⟨o, ho, h⟩ := h
    refine wpAnyH_all hB.1 (by simp) fun i hi => ?_
    obtain rfl : i = t := by simpa using hi
    exact wpOp_mono (fun a' w' h' => ⟨h'.1, wpAnyH_tails ts _ a' w' hB.2 h'.2⟩) (wpOp_of_then ho h)
theorem wpAnyH_heads {ts : List Nat} (hsel : Region.noSelect ops = true) : ∀ (is : List Nat) (listed : Array Bool) (a : Act) (w : World), headHB ops ts is listed = true → S w → wpHeads P ops S (fun a' => wpTailsH P ops S Q ts a' w) is a →
    wpAnyH P .any ops (NoPanic Q) S (is.length + ts.length) listed a w
  | [], listed, a, w, hB, _, h => by
    rw [List.length_nil, Nat.zero_add]
    exact wpAnyH_tails ts listed a w hB h
  | i :: is, listed, a, w, hB, hS, h => by
    simp only [headHB, Bool.and_eq_true] at hB
    obtain ⟨⟨hr, hf⟩, hB⟩ := hB
    obtain ⟨o, ho, v, hy, h⟩ := h
    rw [List.length_cons, show is.length + 1 + ts.length = (is.length + ts.length) + 1 by omega]
    exact wpAnyH_take ho hsel hf hr (fun c a w h => h) hy hS (wpAnyH_heads hsel is _ _ w hB hS h)
theorem wp_region_mixH {id : Nat} {a : Act} {w : World} {l : List Oper} (hs ts : List Nat) (S : World → Prop) (hm : P.follows .mixedOrders = true) (hB : mixHB l.toArray hs ts = true) (hl : hs.length + ts.length = l.length) (hS : S w.drew)
    (h : wpHeads P l.toArray S (fun a' => wpTailsH P l.toArray S Q ts a' w.drew) hs a) : (Code.region id l.toArray true).wp P Q a w := by
  refine wp_region_noPanic (wp_region_held (S := S) hm ?_)
  simp only [mixHB, Bool.and_eq_true] at hB
  have := wpAnyH_heads (P := P) (Q := Q) (S := S) hB.1 hs _ a w.drew hB.2 hS h
  rw [hl] at this
  rw [show l.toArray.size = l.length by simp] at this ⊢
  exact this

end
end Go.Dfl
