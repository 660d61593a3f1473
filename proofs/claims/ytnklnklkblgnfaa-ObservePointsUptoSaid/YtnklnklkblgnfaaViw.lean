/- General lemmas, of no program: how values of a type lie in memory that is only read. -/
import Derived.Test.YtnklnklkblgnfaaOpen
import Derived.Test.YtnklnklkblgnfaaRows
import Derived.Deep.Slices
namespace Go.Dfl
open Go.ChangeShapes Go.WideShapes Go.ChangeAt Go.RowKit Go.Deep
open Go.Proofs.Ytnklnklkblgnfaa.Rows (uptoBulk uptoBulkAll)
/-- How values of a type lie in memory: what the cells of one of them say. -/
structure Vw (α : Type) where
  sz : Nat
  ok : World → List Value → α → Prop
  wt : α → Nat
  below : ∀ {w w' : World} {cs : List Value} {x : α}, ok w cs x → Below w.heap.size w w' → ok w' cs x
def inI (x : Int) : Prop := -9223372036854775808 ≤ x ∧ x ≤ 9223372036854775807
instance (x : Int) : Decidable (inI x) := by unfold inI; infer_instance
def vI : Vw Int := ⟨1, fun _ cs x => cs = [.int .i64 x] ∧ inI x, fun _ => 1, fun h _ => h⟩
def vS : Vw ByteArray := ⟨1, fun _ cs s => cs = [.string s] ∧ s.size ≤ maxLen, fun s => s.size + 1, fun h _ => h⟩
def vB : Vw Bool := ⟨1, fun _ cs b => cs = [.bool b], fun _ => 1, fun h _ => h⟩
section
variable {α : Type} [Inhabited α]
/-- A slice whose elements lie so. -/
def InS (V : Vw α) (w : World) (v : Value) (l : List α) : Prop :=
  ∃ c : Nat → Nat → Value, Sliced w v l.length V.sz c ∧ ∀ i, i < l.length → V.ok w ((List.range V.sz).map (c i)) (nth l i)
theorem InS.below {V : Vw α} {w w' : World} {v : Value} {l : List α} (h : InS V w v l) (hb : Below w.heap.size w w') : InS V w' v l := by
  obtain ⟨c, h1, h2⟩ := h
  exact ⟨c, Sliced.below h1 hb, fun i hi => V.below (h2 i hi) hb⟩
theorem InS.nil (V : Vw α) (w : World) : InS V w (.slice none 0 0) ([] : List α) := ⟨fun _ _ => undef, ⟨none, 0, rfl, by simp, by unfold maxLen; omega, fun i hi => by simp at hi⟩, fun i hi => by simp at hi⟩
theorem InS.shape {V : Vw α} {w : World} {v : Value} {l : List α} (h : InS V w v l) : ∃ a c, v = .slice a l.length c := by
  obtain ⟨c, ⟨a, cap, rfl, -⟩, -⟩ := h
  exact ⟨a, cap, rfl⟩
def vL (V : Vw α) : Vw (List α) := ⟨1, fun w cs l => ∃ v, cs = [v] ∧ InS V w v l, fun l => (l.map V.wt).sum + 1, fun ⟨v, h1, h2⟩ hb => ⟨v, h1, h2.below hb⟩⟩
/-- What a walk needs of a slice that is only read. -/
theorem InS.out {V : Vw α} {w : World} {v : Value} {l : List α} (h : InS V w v l) {P : Program} {t e : TypeId} {z : Value} {by8 : Nat} (ht : SliceOf P t e z V.sz by8) :
    ∃ a cap, v = .slice a l.length cap ∧ l.length ≤ 9223372036854775807 ∧
      (∀ x : Int, 0 ≤ x → x < l.length → ∀ W, (Instr.indexAt t (.slice a l.length cap) (.int .i64 x)).run P W = .ok (.pointer (some ⟨blk a, ofs a + x.toNat * V.sz, none⟩)) W) ∧
      ∀ i, i < l.length → blk a < w.heap.size ∧ ∃ cs : List Value, V.ok w cs (nth l i) ∧ ∀ W, Below w.heap.size w W → ∀ j, j < V.sz → W.cell? ⟨blk a, ofs a + i * V.sz + j, none⟩ = some (nth cs j) := by
  obtain ⟨c, ⟨a, cap, rfl, h1, h2, h3⟩, h4⟩ := h
  refine ⟨a, cap, rfl, by unfold maxLen at h2; omega, fun x h0 hl W => ?_, fun i hi => ⟨(h3 i hi).2.1, _, h4 i hi, fun W hb j hj => ?_⟩⟩
  · exact run_indexAt_opt ht a l.length cap .i64 x h0 hl (h3 x.toNat (by omega)).1 W
  · rw [hb.cell (p := ⟨blk a, ofs a + i * V.sz + j, none⟩) (h3 i hi).2.1, (h3 i hi).2.2 j hj, nth_eq _ _ (by simpa using hj)]
    simp
end
/-- Each value of the type that is handed in lies so. -/
def Opens {α : Type} (P : Program) (t : TypeId) (V : Vw α) : Prop :=
  P.cellsOf t = V.sz ∧ ∀ (H : Type) (enc : TypeId × Value → H) (w : World) (base : Nat) (spare : Nat → Bool) (held : Bool) (n : Nat) (cs : List Value) (x : DataW H × List MemPlace), DataW.trod enc P w base spare held n t cs = some x → ∃ y, V.ok w cs y ∧ V.wt y ≤ uptoBulk x.1
section
variable {P : Program} {t e : TypeId}
theorem Opens.int (ht : P.underlying t = some (.int .i64)) (hc : P.cellsOf t = 1) : Opens P t vI := ⟨hc, fun H enc w base spare held n cs x h => by
  obtain ⟨y, e0, rfl, wy⟩ := DataW.trod_int ht h
  have b0 := bounds_i64 wy
  exact ⟨y, ⟨e0, by omega, by omega⟩, by simp [uptoBulk, vI]⟩⟩
theorem Opens.str (ht : P.underlying t = some .string) (hc : P.cellsOf t = 1) : Opens P t vS := ⟨hc, fun H enc w base spare held n cs x h => by
  obtain ⟨s, e0, rfl, hs⟩ := DataW.trod_string ht h
  exact ⟨s, ⟨e0, hs⟩, by rw [uptoBulk]; exact Nat.le_of_eq (by simp [vS])⟩⟩
theorem Opens.bool (ht : P.underlying t = some .bool) (hc : P.cellsOf t = 1) : Opens P t vB := ⟨hc, fun H enc w base spare held n cs x h => by
  obtain ⟨b, e0, rfl⟩ := DataW.trod_bool ht h
  exact ⟨b, e0, by simp [uptoBulk, vB]⟩⟩
theorem bulk_append {H : Type} : ∀ (a b : List (DataW H)), uptoBulkAll (a ++ b) = uptoBulkAll a + uptoBulkAll b
  | [], b => by simp [uptoBulkAll]
  | x :: a, b => by rw [List.cons_append, uptoBulkAll, uptoBulkAll, bulk_append a b]; omega
theorem choice1 {α : Type} [Inhabited α] (p : Nat → α → Prop) : ∀ n, (∀ i, i < n → ∃ x, p i x) → ∃ xs : List α, xs.length = n ∧ ∀ i, i < n → p i (nth xs i)
  | 0, _ => ⟨[], rfl, fun i hi => by omega⟩
  | n + 1, h => by
    obtain ⟨xs, h1, h3⟩ := choice1 p n fun i hi => h i (by omega)
    obtain ⟨x, h4⟩ := h n (by omega)
    refine ⟨xs ++ [x], by simp [h1], fun i hi => ?_⟩
    rw [nth_append]
    by_cases e : i < n
    · rw [if_pos (by omega)]; exact h3 i e
    · have : i = n := by omega
      subst this
      rw [if_neg (by omega), h1, Nat.sub_self]
      exact h4
theorem Opens.slice {α : Type} [Inhabited α] {V : Vw α} (h : Opens P e V) (hz : 0 < V.sz) (ht : P.underlying t = some (.slice e)) (hc : P.cellsOf t = 1) : Opens P t (vL V) := ⟨hc, fun H enc w base spare held n cs x hx => by
  obtain ⟨hsz, hop⟩ := h
  rcases open_slice ht hx with ⟨rfl, rfl⟩ | ⟨a, len, cap, m, n', D, Pl, rfl, -, hl, hm, hmm, rfl, hel⟩
  · exact ⟨[], ⟨_, rfl, InS.nil V w⟩, by simp [vL, uptoBulk]⟩
  · have hlm : len ≤ m := by rw [hmm]; split <;> omega
    obtain ⟨xs, hxl, hxs⟩ := choice1 (fun i (q : α × List Value) => V.ok w q.2 q.1 ∧ q.2.length = V.sz ∧ (∀ j, j < V.sz → w.cell? ((a.add (i * V.sz)).add j) = q.2[j]?) ∧ V.wt q.1 ≤ uptoBulk (D i)) len (fun i hi => by
      obtain ⟨cs', hcs, hx'⟩ := hel i (by omega)
      rw [hsz] at hcs
      obtain ⟨-, hlen, hcell⟩ := World.cells?_some hcs
      obtain ⟨y, hy, hwt⟩ := hop H enc w base spare held n' cs' _ hx'
      exact ⟨(y, cs'), hy, hlen, hcell, hwt⟩)
    have hsp : 0 < len → a.spot = none := fun h0 => by
      obtain ⟨-, k2, k3, -⟩ := hxs 0 h0
      have h9 := k3 0 hz
      rw [List.getElem?_eq_getElem (by omega)] at h9
      have h8 := (cell_lt h9).2
      obtain ⟨b, o, s⟩ := a
      simp [Addr.add] at h8
      exact h8
    have key : ∀ i, i < len → ∀ j, j < V.sz → w.cell? ⟨a.block, a.off + i * V.sz + j, none⟩ = (nth xs i).2[j]? := fun i hi j hj => by
      have h9 := (hxs i hi).2.2.1 j hj
      rw [addr_none (hsp (by omega))] at h9
      rw [addr_none (x := ⟨a.block, a.off + i * V.sz, none⟩) rfl] at h9
      exact h9
    have hsum : ∀ k, k ≤ len → (((xs.take k).map (·.1)).map V.wt).sum ≤ uptoBulkAll ((List.range k).map D) := fun k => by
      induction k with
      | zero => intro _; simp
      | succ k ih =>
        intro hk
        have h9 := ih (by omega)
        have h8 := (hxs k (by omega)).2.2.2
        rw [take_snoc _ _ (by omega), List.range_succ, List.map_append, List.map_append, List.sum_append, List.map_append, bulk_append]
        simp [uptoBulkAll]
        simp at h9
        omega
    have hsum := hsum len (Nat.le_refl _)
    rw [show xs.take len = xs by rw [← hxl]; exact List.take_length] at hsum
    refine ⟨xs.map (·.1), ⟨_, rfl, fun i j => nth (nth xs i).2 j, ⟨some a, cap, by rw [List.length_map, hxl], by rw [List.length_map]; omega, hm, ?_⟩, ?_⟩, ?_⟩
    · intro i hi
      rw [List.length_map, hxl] at hi
      have hsn := hsp (by omega)
      refine ⟨by obtain ⟨b, o, s⟩ := a; simp at hsn; subst hsn; rfl, ?_, fun j hj => ?_⟩
      · have h9 := key i hi 0 hz
        rw [List.getElem?_eq_getElem (by rw [(hxs i hi).2.1]; exact hz)] at h9
        exact (cell_lt h9).1
      · show w.cell? ⟨a.block, a.off + i * V.sz + j, none⟩ = _
        rw [key i hi j hj, List.getElem?_eq_getElem (by rw [(hxs i hi).2.1]; exact hj)]
        exact congrArg some (nth_eq (nth xs i).2 j (by rw [(hxs i hi).2.1]; exact hj)).symm
    · intro i hi
      rw [List.length_map, hxl] at hi
      obtain ⟨k1, k2, -⟩ := hxs i hi
      have e1 : (List.range V.sz).map (fun j => nth (nth xs i).2 j) = (nth xs i).2 := by
        refine List.ext_getElem (by simp [k2]) fun j hj hj2 => ?_
        rw [List.getElem_map, List.getElem_range]
        exact nth_eq (nth xs i).2 j hj2
      rw [e1, nth_eq (xs.map (·.1)) i (by rw [List.length_map]; omega), List.getElem_map, ← nth_eq xs i (by omega)]
      exact k1
    · show ((xs.map (·.1)).map V.wt).sum + 1 ≤ uptoBulk (DataW.slice _ _)
      rw [uptoBulk]; omega⟩
theorem Opens.agg {α : Type} {V : Vw α} {H : Type} {enc : TypeId × Value → H} {w : World} {base : Nat} {spare : Nat → Bool} {held : Bool} {c : Array Value} {d : DataW H} {p : List MemPlace} (h : Opens P t V) (ht : DataW.Trod enc P w base spare held t (.agg c) d p) : ∃ y, V.ok w c.toList y ∧ V.wt y ≤ uptoBulk d := by
  obtain ⟨f, hf⟩ := ht
  exact h.2 H enc w base spare held f c.toList (d, p) hf
theorem Opens.sl {α : Type} {V : Vw α} {H : Type} {enc : TypeId × Value → H} {w : World} {base : Nat} {spare : Nat → Bool} {held : Bool} {a : Option Addr} {len cap : Nat} {d : DataW H} {p : List MemPlace} (h : Opens P t V) (ht : DataW.Trod enc P w base spare held t (.slice a len cap) d p) : ∃ y, V.ok w [.slice a len cap] y ∧ V.wt y ≤ uptoBulk d := by
  obtain ⟨f, hf⟩ := ht
  exact h.2 H enc w base spare held f [.slice a len cap] (d, p) hf
theorem Opens.fields {fs : Array Field} {H : Type} {enc : TypeId × Value → H} {w : World} {base : Nat} {spare : Nat → Bool} {held : Bool} {n : Nat} {cs : List Value} {x : DataW H × List MemPlace}
    (ht : P.underlying t = some (.struct fs)) (h : DataW.trod enc P w base spare held n t cs = some x) :
    cs.length = P.cellsOf t ∧ ∃ ds : List (DataW H), x.1 = .agg ds ∧ ds.length = fs.size ∧ ∀ (i : Nat) (f : Field), fs[i]? = some f → ∀ (α : Type) (V : Vw α), Opens P f.type V → ∃ y d, ds[i]? = some d ∧ V.ok w ((cs.drop f.offset).take V.sz) y ∧ V.wt y ≤ uptoBulk d := by
  obtain ⟨xs, n', -, rfl, hlen, hxs, hf⟩ := DataW.trod_struct ht h
  refine ⟨hlen, _, rfl, by rw [List.length_map, hxs], fun i f hi α V hV => ?_⟩
  have h9 := hf i f hi
  have hil : i < fs.size := (Array.getElem?_eq_some_iff.1 hi).1
  rw [List.getElem?_eq_getElem (by omega), hV.1] at h9
  obtain ⟨y, h1, h2⟩ := hV.2 H enc w base spare held n' _ _ h9
  exact ⟨y, _, by rw [List.getElem?_map, List.getElem?_eq_getElem (by omega)]; rfl, h1, h2⟩
end
end Go.Dfl
