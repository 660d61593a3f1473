/- Contract of Succ. -/
import Derived.Test.YtchmjgjagaaomaaGri
import Derived.Test.YtchmjgjagaaomaaGrc
namespace Go.Dfl
open Go.RowKit
/-- 'append(s, x)' in a round. -/
theorem wpIn_append1 {F : Fence} {nF : Nat} {α : Type} {f : α → Value} {P : Program} {t e : TypeId} {z : Value} {by8 : Nat} (ht : SliceOf P t e z 1 by8) (hz : z.cells.size = 1) (w : World) {ops : Array Oper} {rest : List Oper} {o : Oper} {a : Act} {Q : Exit → Act → World → Prop}
    (hg : o.guard = none) (s x : Operand) (hop : o.op = .call { callee := .builtin .append, args := #[s, x], argTypes := #[t, t] })
    (base : Nat) (v : Value) (l : List α) (hs : a.eval s = v) (hown : Own f w base e v l) (y : α) (ad : Addr) (hx : a.eval x = .slice (some ad) 1 1) (hy : w.cell? ad = some (f y)) (h1 : (f y).oneCell' = true)
    (hlen : l.length < 17592186044416) (h8 : by8 ≤ 8) (hbase : base ≤ w.heap.size)
    (hK : ∀ v' w', Own f w' base e v' (l ++ [y]) → w.grownBy w' v.ownBlock → Below base w w' → wpListIn F nF P ops Q rest (a.put o.dst v') w') : wpListIn F nF P ops Q (o :: rest) a w := by
  obtain ⟨i, hi, hz0, hz1, hz2⟩ := ht.info
  refine wpListIn_append_own w hg s x t hop base e i z 1 by8 ht.und hi hz0 hz1 hz2 hz (by omega) v l.length (l.map f) hs hown ad 1 1 [f y] hx rfl ?_ (by simpa using h1) (by unfold maxLen; omega) ?_ hbase ?_
  · intro j u hj
    cases j with
    | zero => simp at hj; subst hj; simpa [Addr.add] using hy
    | succ j => simp at hj
  · exact Nat.le_trans (Nat.mul_le_mul (by omega : l.length + 1 ≤ 17592186044416) h8) (by omega)
  · intro v' w' h2 h3 _
    exact hK v' w' (by unfold Own; simpa using h2) h3 ((Below.refl _ _).grown h3 hbase fun k hk => (World.ownsRow.lt hown k hk).1)
end Go.Dfl
namespace Go.Proofs.Ytchmjgjagaaomaa
open Go.RowKit Go.Dfl Go.Gra Go.Shelf
attribute [local go_sem] Oper.semAt_some

def sucZ (g : G) (v : Int) : List Nat := if nodeG g v then suc g.es v.toNat else []
def SuccR (g : G) (v : Int) (W : World) (e : Ending) (W' : World) : Prop := ∃ a c, e = .returned (.slice a (sucZ g v).length c) ∧ Ints W' (.slice a (sucZ g v).length c) ((sucZ g v).map fun x : Nat => (x : Int)) ∧ Below W.heap.size W W'
/-- A list in a box. -/
structure BxI (b base : Nat) (l : List Int) (W : World) : Prop where
  ex : ∃ v, W.cell? ⟨b, 0, none⟩ = some v ∧ OwnI W base 3 v l
  frz : W.frozen? ⟨b, 0, none⟩ = false
  lt : b < base
theorem BxI.grown {b base : Nat} {l : List Int} {W W' : World} (h : BxI b base l W) {row : Option Nat} (hg : W.grownBy W' row) (hr : ∀ k, row = some k → k ≠ b ∧ (k < base ∨ W.heap.size ≤ k ∨ ∀ v, W.cell? ⟨b, 0, none⟩ = some v → v.ownBlock ≠ some k)) : BxI b base l W' := by
  obtain ⟨v, h1, h2⟩ := h.ex
  have hlt := World.block_lt_of_cell? W _ h1
  have hne : some b ≠ row := fun e => (hr b e.symm).1 rfl
  refine ⟨⟨v, hg.cell h1 hne, h2.grown hg ?_⟩, ?_, h.lt⟩
  · cases e : v.ownBlock with
    | none => exact .inl rfl
    | some k =>
      refine .inr fun e2 => ?_
      have h3 := h2.lt k e
      rcases (hr k e2.symm).2 with h4 | h4 | h4
      · omega
      · omega
      · exact h4 v h1 e
  · rw [World.frozen?_of_block (a := ⟨b, 0, none⟩) (hg.block b hlt hne)]; exact h.frz
theorem BxI.own {b base B : Nat} {α : Type} {f : α → List Int} : OwnFrom B (fun (s : α) W => BxI b base (f s) W) := fun s W W' row hs hg hr => hs.grown hg fun k e => by
  obtain ⟨-, o, ho, hc⟩ := hr k e
  obtain ⟨v, h1, h2⟩ := hs.ex
  refine ⟨fun e2 => ?_, .inr (.inr fun u hu e2 => ?_)⟩
  · subst e2
    simp only [World.cell?, ho] at h1
    cases o <;> simp_all [Obj.isCells]
  · rw [hu] at h1
    obtain rfl := Option.some.inj h1
    obtain ⟨-, ⟨h3, -⟩ | ⟨g, cap, cur, h3, -, h5, -⟩⟩ := h2
    · rw [h3] at e2; simp [Value.ownBlock] at e2
    · rw [h3] at e2
      have e3 : g = k := by simpa [Value.ownBlock] using e2
      subst e3
      rw [ho] at h5
      obtain rfl := Option.some.inj h5
      simp [Obj.isCells] at hc

theorem ownFrom_size {β : Type} {B m : Nat} : OwnFrom B (fun (_ : β) W => m ≤ W.heap.size) := fun _ _ _ _ hs hg _ => Nat.le_trans hs hg.size
theorem own_ne_obj {f : Int → Value} {W : World} {base : Nat} {e : TypeId} {v : Value} {l : List Int} (h : Go.Dfl.Own f W base e v l) {D : Nat} {o : Obj} (hD : W.heap[D]? = some o) (ho : o.isCells = false) : v.ownBlock = none ∨ v.ownBlock ≠ some D := by
  refine .inr fun e2 => ?_
  obtain ⟨-, ⟨h3, -⟩ | ⟨g, cap, cur, h3, -, h5, -⟩⟩ := h
  · rw [h3] at e2; simp [Value.ownBlock] at e2
  · rw [h3] at e2
    have e3 : g = D := by simpa [Value.ownBlock] using e2
    subst e3
    rw [hD] at h5
    obtain rfl := Option.some.inj h5
    simp [Obj.isCells] at ho
set_option maxHeartbeats 3200000 in
set_option maxRecDepth 100000 in
theorem gSucc_any (g : G) (cv : Value) (v : Int) (W : World) (h : Pairs W cv g.es) : Calls Try.prog 39 #[GV g cv, .int .i64 v] W (SuccR g v W) := by
  obtain ⟨ca, cc, rfl, -, -, -⟩ := pairs_rd h
  have hal := (Below.refl W.heap.size W).alloc (Nat.le_refl _) (.cells #[.int .i64 g.n, .slice ca g.es.length cc] 24)
  have H0 := Lib.hid (And.intro (h.below hal) (And.intro hal (BoxG.new W g.n (.slice ca g.es.length cc) 24)))
  clear h hal
  unfold GV
  refine (callsIn_wide (n := 5)).1 ?_
  refine callsIn_of_wp_marks Try.func39 rfl trivial ?_ rfl
  simp only [Try.ntmps39, List.size_toArray, List.length_cons, List.length_nil, Nat.reduceAdd, Nat.reduceSub, Array.replicate_succ, Array.replicate_zero, List.push_toArray, List.append_toArray, List.nil_append, List.cons_append]
  refine wpIn_wide.2 ?_
  go_wp2_with fail
  have hck := gCheck_any g (.slice ca g.es.length cc) _ H0.out.1
  unfold GV at hck
  refine hck.mono ?_
  rintro e W1 ⟨rfl, r1⟩
  have H1 := Lib.hid (And.intro (H0.out.1.below r1) (And.intro (H0.out.2.1.trans (r1.mono H0.out.2.1.size)) (H0.out.2.2.below r1)))
  clear r1 hck
  obtain ⟨c0, c1⟩ := H1.out.2.2
  have n1 : W.heap.size < W1.heap.size := H1.out.2.2.lt
  generalize hbs : W.heap.size = bs at *
  have HBS := Lib.hid hbs
  have n2 : bs ≠ W1.heap.size := by omega
  clear hbs
  by_cases hc : gCode g = 0
  · have q0 : (gCode g != 0) = false := by simpa using hc
    cases hnd : nodeB g.n v
    · have HN : Hid (sucZ g v = []) := Lib.hid (by unfold sucZ nodeG; simp [hnd])
      go_wp2_with (go_at_call 42; refine (node_any _ _ _).mono ?_; rintro e w' ⟨rfl, hw⟩; rw [hw]; clear hw w')
      exact ⟨_, results_tmp rfl _ _ _, none, 0, by rw [HN.out]; rfl, by rw [HN.out]; exact Lst.nil _ _, by rw [HBS.out]; exact H1.out.2.1⟩
    · have hvg := gCode_ok.1 hc
      obtain ⟨hv0, hv1⟩ := nodeB_iff.1 hnd
      obtain ⟨n, rfl⟩ : ∃ n : Nat, v = n := ⟨v.toNat, by omega⟩
      have HN : Hid (sucZ g (n : Int) = suc g.es n) := Lib.hid (by unfold sucZ nodeG; simp [hc, hnd])
      have hl := hvg.len
      have HV := Lib.hid hvg
      have hp2 := H1.out.1.below ((Below.refl W1.heap.size W1).alloc (Nat.le_refl _) (.cells #[.slice none 0 0] 32))
      have hr2 := RdS.new (v := n) hp2
      have hb3 : Below W1.heap.size W1 (((W1.alloc (.cells #[.slice none 0 0] 32)).alloc (.cells #[.int .i64 g.n, .slice ca g.es.length cc] 24)).alloc (.cells #[.int .i64 (n : Int)] 3)) := (((Below.refl _ _).alloc (Nat.le_refl _) _).alloc (by simp) _).alloc (by simp; omega) _
      have hbx : BxI W1.heap.size (W1.heap.size + 1 + 1 + 1) [] (((W1.alloc (.cells #[.slice none 0 0] 32)).alloc (.cells #[.int .i64 g.n, .slice ca g.es.length cc] 24)).alloc (.cells #[.int .i64 (n : Int)] 3)) := by
        have h1 : BxI W1.heap.size (W1.heap.size + 1 + 1 + 1) [] (W1.alloc (.cells #[.slice none 0 0] 32)) := ⟨⟨_, cell_alloc1 _ _ _, Go.Dfl.Own.nil _ _ _ _⟩, by have hq := heap_alloc_new W1 (.cells #[.slice none 0 0] 32); simp only [World.frozen?, hq]; first | rfl | simp, by omega⟩
        exact (h1.grown (grownBy_alloc _ _) (by simp)).grown (grownBy_alloc _ _) (by simp)
      rw [World.size_alloc] at hr2
      have HR := Lib.hid (And.intro hr2 (And.intro hb3 (And.intro hbx hp2)))
      clear hvg hv0 hv1 hc hr2 hb3 hbx hp2
      have hsu : ∀ Z, Calls Try.prog 56 #[.agg #[.int .i64 g.n, .slice ca g.es.length cc], .int .i64 (n : Int)] Z fun e W' => e = .returned (.func (.func 70) #[] #[.pointer (some ⟨Z.heap.size, 0, none⟩), .pointer (some ⟨Z.heap.size + 1, 0, none⟩)]) ∧ W' = (Z.alloc (.cells #[.int .i64 g.n, .slice ca g.es.length cc] 24)).alloc (.cells #[.int .i64 (n : Int)] 3) := fun Z => succ_any g (.slice ca g.es.length cc) n Z
      have HSU := Lib.hid hsu
      clear hsu
      go_wp2_with (first | (go_at_call 42; refine (node_any _ _ _).mono ?_; rintro e w' ⟨rfl, hw⟩; rw [hw]; clear hw w') | (go_at_call 56; refine (HSU.out _).mono ?_; rintro e w' ⟨rfl, hw⟩; rw [hw]; clear hw w'))
      refine (wpIn_wide (n := 5)).1 ?_
      refine wpIn_rangeFunc_ownG rfl (by omega) (gf := 70) (lb := #[.pointer (some ⟨W1.heap.size + 1, 0, none⟩), .pointer (some ⟨W1.heap.size + 1 + 1, 0, none⟩)]) rfl trivial (enters_of Try.func70 (by kernel_rfl) rfl)
        (suc_stops g HV.out n (W1.heap.size + 1) (W1.heap.size + 1 + 1) ca cc _ 4 (by omega) (H1.out.1.below HR.out.2.1) HR.out.1) (fun h k => h.trans k) ?hKb (Below.refl _ _) (fun _ => rfl)
        (fun pre Z => BxI W1.heap.size (W1.heap.size + 1 + 1 + 1) ((vals pre).map fun x : Nat => (x : Int)) Z ∧ Below W1.heap.size W1 Z ∧ W1.heap.size + 1 + 1 + 1 ≤ Z.heap.size) (fun _ _ _ => False)
        (OwnFrom.and BxI.own (OwnFrom.and (ownFrom_below (Nat.le_refl _) (by simp; omega)) ownFrom_size)) (fun _ _ _ _ _ hs _ _ => hs) ⟨HR.out.2.2.1, HR.out.2.1, by simp⟩ ?a1 ?assign ?body ?done ?stop
      case hKb =>
        intro Z l o o' hlz hlo ho hwk
        have hbc : bcOf g ca (W1.heap.size + 1) < (((W1.alloc (.cells #[.slice none 0 0] 32)).alloc (.cells #[.int .i64 g.n, .slice ca g.es.length cc] 24)).alloc (.cells #[.int .i64 (n : Int)] 3)).heap.size := bcOf_lt H1.out.1 (by simp; omega) (by simp)
        simp only [World.size_alloc] at hlz hbc
        exact KpS.grown (grownBy_putObj' Z l o') (fun k e => by have e2 := Option.some.inj e; omega)
      case assign =>
        intro l x Z K hK
        gi_wp2
        exact hK
      case body =>
        rintro l pre x Z ⟨hbx, hb, hsz⟩ hlt
        obtain ⟨u, u1, u2⟩ := hbx.ex
        obtain ⟨ua, uc, rfl⟩ := u2.shape (n := pre.length) (by rw [List.length_map, vals_len])
        have uf := hbx.frz
        have hbl := World.block_lt_of_cell? Z _ u1
        have hH := Lib.hid (And.intro hbx (And.intro hb (And.intro u2 hlt)))
        have hll : ((vals pre).map fun x : Nat => (x : Int)).length < 17592186044416 := by rw [List.length_map, vals_len]; omega
        have HL := Lib.hid hll
        have hne : some W1.heap.size ≠ (Value.slice ua pre.length uc).ownBlock := fun e => by have := (u2.lt _ e.symm).1; omega
        have HNE := Lib.hid hne
        clear hbx hb u2 hll hlt hne
        gi_wp2_with (gi_at_builtin; refine wpIn_append1 (f := Value.int .i64) sIntG rfl _ rfl _ _ rfl (W1.heap.size + 1 + 1 + 1) _ ((vals pre).map fun x : Nat => (x : Int)) rfl (hH.out.2.2.1.alloc _) (x.1 : Int) ⟨Z.heap.size, 0, none⟩ rfl (cell_alloc1 _ _ _) rfl HL.out (by omega) (le_alloc _ hsz) ?_; intro v' w3 hown hgr hb3; obtain ⟨s9, c9, rfl⟩ := hown.shape (n := pre.length + 1) (by rw [List.length_append, List.length_map, vals_len]; rfl); have e1 := hgr.cell ((grownBy_alloc Z (.cells #[.int .i64 (x.1 : Int)] 3)).cell u1 (by simp)) HNE.out; have f1 : w3.frozen? ⟨W1.heap.size, 0, none⟩ = false := (by rw [World.frozen?_of_block (a := ⟨W1.heap.size, 0, none⟩) ((hgr.block _ (by simp; omega) HNE.out).trans ((grownBy_alloc Z (.cells #[.int .i64 (x.1 : Int)] 3)).block _ hbl (by simp)))]; exact uf); have HO := Lib.hid (And.intro hown (And.intro hgr hb3)); clear hown hgr hb3)
        have gA := grownBy_alloc Z (.cells #[.int .i64 (x.1 : Int)] 3)
        have gS := grownBy_setCell w3 ⟨W1.heap.size, 0, none⟩ (.slice s9 (pre.length + 1) c9)
        have hbel : Below W1.heap.size Z (w3.setCell ⟨W1.heap.size, 0, none⟩ (.slice s9 (pre.length + 1) c9)) := (((Below.refl W1.heap.size Z).alloc (by omega) _).trans (HO.out.2.2.mono (by omega))).setCell (show W1.heap.size ≤ (⟨W1.heap.size, 0, none⟩ : Addr).block from Nat.le_refl _) _
        have hrow : ∀ k, (Value.slice ua pre.length uc).ownBlock = some k → W1.heap.size + 1 + 1 + 1 ≤ k ∧ ∀ o, Z.heap[k]? = some o → o.isCells = true := fun k e => by
          refine ⟨(hH.out.2.2.1.lt k e).1, fun o ho => ?_⟩
          obtain ⟨-, ⟨h3, -⟩ | ⟨g9, cap, cur, h3, -, h5, -⟩⟩ := hH.out.2.2.1
          · rw [h3] at e; simp [Value.ownBlock] at e
          · rw [h3] at e
            have e3 : g9 = k := by simpa [Value.ownBlock] using e
            subst e3
            rw [ho] at h5
            obtain rfl := Option.some.inj h5
            rfl
        refine ⟨?_, ?_, ⟨⟨⟨_, World.cell?_setCell_same w3 _ _ e1, ?_⟩, by rw [World.frozen?_setCell]; exact f1, by omega⟩, hH.out.2.1.trans hbel, by have h1 := hbel.size; omega⟩⟩
        · refine (((KeepsOthers.alloc Z _).trans (KeepsOthers.of_grownBy HO.out.2.1 fun j o e ho => ?_)).trans (KeepsOthers.setCell _ _ _)).from _
          have hjz : j < Z.heap.size := (hH.out.2.2.1.lt j e).2
          rw [gA.block j hjz (by simp)] at ho
          exact (hrow j e).2 o ho
        · have hbc := bcOf_or (bg := W1.heap.size + 1) H1.out.1
          refine ((KpS.grown gA (by simp)).trans (KpS.grown HO.out.2.1 fun k e => ?_)).trans (KpS.grown gS fun k e => ?_)
          · have := (hrow k e).1; omega
          · have e2 : W1.heap.size = k := Option.some.inj e
            omega
        · rw [vals_snoc, List.map_append]
          exact HO.out.1.grown gS (.inr fun e => by have := (HO.out.1.lt _ e).1; have e9 : (⟨W1.heap.size, 0, none⟩ : Addr).block = W1.heap.size := rfl; omega)
      case done =>
        rintro D ys Z hD hys ⟨hbx, hb, -⟩ hK
        obtain ⟨u, u1, u2⟩ := hbx.ex
        obtain ⟨ua, uc, rfl⟩ := u2.shape (n := ys.length) (by rw [List.length_map, vals_len])
        have hH := Lib.hid (And.intro hb (And.intro u2 hys))
        clear hbx hb u2 hys
        go_wp2_with fail
        refine ⟨by simp, .inl ⟨_, _, rfl, run_takeDeferred hK, ?_⟩⟩
        have hlen : ys.length = (sucZ g (n : Int)).length := by rw [HN.out, ← hH.out.2.2, vals_len]
        have gP := grownBy_putObj' Z D (.deferred none)
        refine ⟨_, results_tmp rfl _ _ _, ua, uc, by rw [← hlen]; rfl, ?_, ?_⟩
        · rw [← hlen, HN.out, ← hH.out.2.2]
          have ho := hH.out.2.1.grown gP (own_ne_obj hH.out.2.1 hK rfl)
          exact ho.lst
        · have hDz : W1.heap.size ≤ D := by simp at hD; omega
          have h9 := (H1.out.2.1.trans (hH.out.1.mono (Nat.le_of_lt n1))).grown gP (Nat.le_trans (Nat.le_of_lt n1) hH.out.1.size) (fun k e => by have e2 := Option.some.inj e; omega)
          rw [HBS.out]; exact h9
      case stop =>
        rintro D c pre Z _ _ h _
        exact h.elim
  · have hz : (gCode g != 0) = true := by simpa using hc
    have HN : Hid (sucZ g v = []) := Lib.hid (by unfold sucZ nodeG; simp [hc])
    clear hc
    go_wp2_with fail
    exact ⟨_, results_tmp rfl _ _ _, none, 0, by rw [HN.out]; rfl, by rw [HN.out]; exact Lst.nil _ _, by rw [HBS.out]; exact H1.out.2.1⟩
end Go.Proofs.Ytchmjgjagaaomaa
