/- A set of keys kept as a map[K]bool that the call made: asked by m[k], written by m[k] = true. Of no program. -/
import Derived.Test.YtdlfbkmjemamhaaRow
import Derived.Maps.OwnSet
import Derived.DeepKeys4
namespace Go.Dfl
open Go.Maps

/-- Block b is a map[K]bool that holds true at just the keys of the list. -/
def SetM (P : Program) (k e : TypeId) (w : World) (b n : Nat) (l : List Value) : Prop :=
  ∃ D : DataW Unit, w.ownsMap P k (plainElem P e) b n D ∧ ∀ key kl, keyOf P k key = some kl → ∃ x, D.atKey kl (.lit (.bool false)) = .lit (.bool x) ∧ (x = true ↔ key ∈ l)

section
variable {P : Program} {k e t : TypeId} {w w' : World} {b n : Nat} {l : List Value}

theorem SetM.made (P : Program) (k e : TypeId) (w : World) {B : Nat} (hB : B = w.heap.size) : SetM P k e (w.alloc (.map #[] 0)) B 0 [] := by
  subst hB
  exact ⟨_, World.ownsMap_made w P k _, fun key kl _ => ⟨false, by simp [DataW.atKey], by simp⟩⟩
theorem SetM.kept {row : Option Nat} (h : SetM P k e w b n l) (hg : w.grownBy w' row) (hne : some b ≠ row) : SetM P k e w' b n l := by
  obtain ⟨D, h1, h2⟩ := h
  exact ⟨D, h1.kept hg hne, h2⟩
theorem SetM.block {w' : World} (h : SetM P k e w b n l) (hb : w'.heap[b]? = w.heap[b]?) : SetM P k e w' b n l := by
  obtain ⟨D, ⟨es, clock, h0, h1⟩, h2⟩ := h
  exact ⟨D, ⟨es, clock, hb.trans h0, h1⟩, h2⟩
theorem SetM.mono (h : SetM P k e w b n l) {n' : Nat} (hn : n ≤ n') : SetM P k e w b n' l := by
  obtain ⟨D, h1, h2⟩ := h
  exact ⟨D, h1.mono hn, h2⟩
theorem SetM.lt (h : SetM P k e w b n l) : b < w.heap.size := by obtain ⟨D, h1, -⟩ := h; exact h1.lt
theorem plainElem_bool_inv {H : Type} {P : Program} {e : TypeId} (he : P.underlying e = some .bool) {v : Value} {z : DataW H × List MemPlace} (h : plainElem P e v = some z) : ∃ a, v = .bool a ∧ z = (.lit (.bool a), []) := by
  unfold plainElem at h
  rw [he] at h
  cases v <;> simp at h
  subst h
  exact ⟨_, rfl, rfl⟩
theorem SetM.look (h : SetM P k e w b n l) (K : Keyed P k) (ht : P.underlying t = some (.map k e)) (he : P.underlying e = some .bool) (hz : (zeroValue e).run P w = .ok (.bool false) w) {key : Value} {kl : Lit} (hkey : keyOf P k key = some kl) :
    ∃ x, (Instr.lookup t (.map (some b)) key false).run P w = .ok (.bool x) w ∧ (x = true ↔ key ∈ l) := by
  obtain ⟨D, h1, h2⟩ := h
  obtain ⟨v, ps, hrun, hv⟩ := h1.lookup K ht hz (plainElem_bool he false) hkey
  obtain ⟨x, hx, hl⟩ := h2 key kl hkey
  obtain ⟨a, rfl, ha⟩ := plainElem_bool_inv he hv
  rw [hx] at ha
  simp only [Prod.mk.injEq, DataW.lit.injEq, Lit.bool.injEq] at ha
  exact ⟨a, hrun, by rw [← ha.1]; exact hl⟩
theorem SetM.put (h : SetM P k e w b n l) (K : Keyed P k) (ht : P.underlying t = some (.map k e)) (he : P.underlying e = some .bool) (hn : n < maxLen) {key : Value} {kl : Lit} (hkey : keyOf P k key = some kl) :
    ∃ w', (Instr.mapUpdate t (.map (some b)) key (.bool true)).run P w = .ok () w' ∧ SetM P k e w' b (n + 1) (key :: l) ∧ w.grownBy w' (some b) := by
  obtain ⟨D, h1, h2⟩ := h
  obtain ⟨w', hrun, how, hg⟩ := h1.update K ht hn hkey (plainElem_bool he true)
  refine ⟨w', hrun, ⟨_, how, fun key' kl' hk' => ?_⟩, hg⟩
  by_cases ek : kl' = kl
  · subst ek
    obtain rfl := K.inj hk' hkey
    exact ⟨true, atKey_put_same h1.isMap (K.key hkey) _ _, by simp⟩
  · obtain ⟨x, hx, hl⟩ := h2 key' kl' hk'
    refine ⟨x, by rw [atKey_put_other ek]; exact hx, ?_⟩
    have : key' ≠ key := fun e' => ek (by rw [e', hkey] at hk'; simpa using hk'.symm)
    simp [this, hl]
theorem wp_mapPut {ops : Array Oper} {rest : List Oper} {o : Oper} {a : Act} {Q : Exit → Act → World → Prop} (h : SetM P k e w b n l) (hg : o.guard = none) (m x v : Operand) (hop : o.op = Op.mapUpdate t m x v) (K : Keyed P k) (ht : P.underlying t = some (.map k e)) (he : P.underlying e = some .bool)
    (hm : a.eval m = .map (some b)) (hv : a.eval v = .bool true) (hn : n < maxLen) (key : Value) (kl : Lit) (hx : a.eval x = key) (hkey : keyOf P k key = some kl)
    (hK : ∀ w', SetM P k e w' b (n + 1) (key :: l) → w.grownBy w' (some b) → wpList P ops Q rest (a.put o.dst undef) w') : wpList P ops Q (o :: rest) a w := by
  refine wpList_plain hg fun K' hK' => ?_
  obtain ⟨w', hrun, r1, r2⟩ := h.put K ht he hn hkey
  unfold Oper.wp
  simp [execOp, hop, hm, hx, hv, hrun, Result.andThen]
  exact hK' _ _ (hK w' r1 r2)
end
end Go.Dfl
