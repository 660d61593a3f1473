/- Contract of Postorder. -/
import Derived.Test.YtlijimdkadobmaaGpv
import Derived.Test.YtlijimdkadobmaaGrs
namespace Go.Gra
/-- The postorder from a root. -/
def postL (g : G) (r : Nat) : List Nat := (dfs g.es g.n.toNat r ([], [])).2
end Go.Gra
namespace Go.Proofs.Ytlijimdkadobmaa
open Go.RowKit Go.Dfl Go.Gra
def postZ (g : G) (r : Int) : List Nat := if nodeG g r then postL g r.toNat else []
def PostR (g : G) (r : Int) (W : World) (e : Ending) (W' : World) : Prop := ∃ a c, e = .returned (.slice a (postZ g r).length c) ∧ Ints W' (.slice a (postZ g r).length c) ((postZ g r).map fun x : Nat => (x : Int)) ∧ Below W.heap.size W W'
/-- The same, the list being the call's own. -/
def PostO (g : G) (r : Int) (W : World) (e : Ending) (W' : World) : Prop := ∃ a c, e = .returned (.slice a (postZ g r).length c) ∧ OwnI W' W.heap.size 3 (.slice a (postZ g r).length c) ((postZ g r).map fun x : Nat => (x : Int)) ∧ Below W.heap.size W W'
theorem PostO.any {g : G} {r : Int} {W : World} {e : Ending} {W' : World} (h : PostO g r W e W') : PostR g r W e W' := by
  obtain ⟨a, c, h1, h2, h3⟩ := h
  exact ⟨a, c, h1, h2.lst, h3⟩
theorem PoW.new {W2 : World} {s : Option Addr} {n cap bg B0 : Nat} {g : G} {ca : Option Addr} {cc : Nat} (h : Go.Dfl.Own Value.bool W2 B0 4 (.slice s n cap) (List.replicate n false)) (hB : B0 ≤ W2.heap.size) (hb : BoxG W2 bg g.n (.slice ca g.es.length cc)) (hp : Pairs W2 (.slice ca g.es.length cc) g.es) (hbg : bg < B0) (hes : bcOf g ca bg < B0) :
    PoW W2.heap.size (W2.heap.size + 1) (W2.heap.size + 1 + 1) bg B0 (W2.heap.size + 1 + 1 + 1) n cap s g ca cc ([], []) (.slice none 0 0) (((W2.alloc (.cells #[.slice s n cap] 49)).alloc (.cells #[.slice none 0 0] 31)).alloc (.cells #[.func (.func 53) #[] #[.pointer (some ⟨W2.heap.size, 0, none⟩), .pointer (some ⟨bg, 0, none⟩), .pointer (some ⟨W2.heap.size + 1 + 1, 0, none⟩), .pointer (some ⟨W2.heap.size + 1, 0, none⟩)]] 73)) := by
  have b1 := (Below.refl W2.heap.size W2).alloc (Nat.le_refl _) (.cells #[.slice s n cap] 49)
  have b2 := b1.alloc (by rw [World.size_alloc]; omega) (.cells #[.slice none 0 0] 31)
  have b3 := b2.alloc (by rw [World.size_alloc, World.size_alloc]; omega) (.cells #[.func (.func 53) #[] #[.pointer (some ⟨W2.heap.size, 0, none⟩), .pointer (some ⟨bg, 0, none⟩), .pointer (some ⟨W2.heap.size + 1 + 1, 0, none⟩), .pointer (some ⟨W2.heap.size + 1, 0, none⟩)]] 73)
  have g2 := grownBy_alloc (W2.alloc (.cells #[.slice s n cap] 49)) (.cells #[.slice none 0 0] 31)
  have g3 := grownBy_alloc ((W2.alloc (.cells #[.slice s n cap] 49)).alloc (.cells #[.slice none 0 0] 31)) (.cells #[.func (.func 53) #[] #[.pointer (some ⟨W2.heap.size, 0, none⟩), .pointer (some ⟨bg, 0, none⟩), .pointer (some ⟨W2.heap.size + 1 + 1, 0, none⟩), .pointer (some ⟨W2.heap.size + 1, 0, none⟩)]] 73)
  have c1 := cell_alloc1 W2 (.slice s n cap) 49
  have c2 := cell_alloc1 (W2.alloc (.cells #[.slice s n cap] 49)) (.slice none 0 0) 31
  have f2 := frozen_alloc1 (W2.alloc (.cells #[.slice s n cap] 49)) (.slice none 0 0) 31
  have c3 := cell_alloc1 ((W2.alloc (.cells #[.slice s n cap] 49)).alloc (.cells #[.slice none 0 0] 31)) (.func (.func 53) #[] #[.pointer (some ⟨W2.heap.size, 0, none⟩), .pointer (some ⟨bg, 0, none⟩), .pointer (some ⟨W2.heap.size + 1 + 1, 0, none⟩), .pointer (some ⟨W2.heap.size + 1, 0, none⟩)]) 73
  simp only [World.size_alloc] at c2 f2 c3
  have hv : visB n [] = List.replicate n false := by
    unfold visB
    rw [List.eq_replicate_iff]
    exact ⟨by simp, fun b hb => by simp at hb; exact hb.2⟩
  refine ⟨g3.cell (g2.cell c1 (by simp)) (by simp), ?_, g3.cell c2 (by simp), frozen_kept g3 (by simp only [World.size_alloc]; omega) (by simp) f2, Go.Dfl.Own.nil _ _ _ _, c3, hb.below b3, hp.below b3, fun k e => ?_, ⟨by omega, by omega, by omega, by omega, by omega, by omega, by omega, by omega, by omega, hbg, by omega, by omega, by simp only [World.size_alloc]; omega⟩, hes, ⟨fun x hx => by simp at hx, List.nodup_nil⟩, by simp⟩
  · dsimp only; rw [hv]; exact ((h.alloc _).alloc _).alloc _
  · have := h.lt k e; omega
set_option maxHeartbeats 3200000 in
set_option maxRecDepth 100000 in
theorem gPostorder_own (g : G) (cv : Value) (r : Int) (W : World) (h : Pairs W cv g.es) : Calls Try.prog 44 #[GV g cv, .int .i64 r] W (PostO g r W) := by
  obtain ⟨ca, cc, rfl, -, -, -⟩ := pairs_rd h
  have hal := (Below.refl W.heap.size W).alloc (Nat.le_refl _) (.cells #[.int .i64 g.n, .slice ca g.es.length cc] 24)
  have hbc : bcOf g ca W.heap.size ≤ W.heap.size := by
    rcases bcOf_or (bg := W.heap.size) h with h1 | h1 <;> omega
  have H0 := Lib.hid (And.intro (h.below hal) (And.intro hal (BoxG.new W g.n (.slice ca g.es.length cc) 24)))
  have HBC := Lib.hid hbc
  clear h hal hbc
  unfold GV
  go_enter Try.func44, Try.ntmps44
  go_wp2_with fail
  have hck := gCheck_any g (.slice ca g.es.length cc) _ H0.out.1
  unfold GV at hck
  refine hck.mono ?_
  rintro e W1 ⟨rfl, r1⟩
  have H1 := Lib.hid (And.intro (H0.out.1.below r1) (And.intro (H0.out.2.1.trans (r1.mono H0.out.2.1.size)) (H0.out.2.2.below r1)))
  clear r1 hck
  obtain ⟨c0, c1⟩ := H1.out.2.2
  have n1 : W.heap.size < W1.heap.size := H1.out.2.2.lt
  generalize hbs : W.heap.size = bs at *
  have HBS := Lib.hid hbs
  have n2 : bs ≠ W1.heap.size := by omega
  clear hbs
  by_cases hc : gCode g = 0
  · have q0 : (gCode g != 0) = false := by simpa using hc
    cases hnd : nodeB g.n r
    · have HN : Hid (postZ g r = []) := Lib.hid (by unfold postZ nodeG; simp [hnd])
      go_wp2_with (go_at_call 51; refine (node_any _ _ _).mono ?_; rintro e w' ⟨rfl, hw⟩; rw [hw]; clear hw w')
      go_ret
      exact ⟨none, 0, by rw [HN.out]; rfl, by rw [HN.out]; exact Go.Dfl.Own.nil _ _ _ _, by rw [HBS.out]; exact H1.out.2.1⟩
    · have hvg := gCode_ok.1 hc
      obtain ⟨hv0, hv1⟩ := nodeB_iff.1 hnd
      obtain ⟨v, rfl⟩ : ∃ v : Nat, r = v := ⟨r.toNat, by omega⟩
      obtain ⟨n, hn⟩ : ∃ n : Nat, g.n = n := ⟨g.n.toNat, by omega⟩
      have HN : Hid (postZ g (v : Int) = (dfs g.es n v ([], [])).2) := Lib.hid (by
        have h1 : nodeG g (v : Int) = true := by unfold nodeG; rw [decide_eq_true hc, hnd]; rfl
        unfold postZ postL
        rw [if_pos h1, hn, Int.toNat_natCast, Int.toNat_natCast])
      have hn8 : n ≤ 8192 := by have := hvg.n1; omega
      have hvn : v < n := by omega
      have HV := Lib.hid (And.intro hvg hn)
      rw [hn] at c0 hnd ⊢
      clear hvg hv0 hv1 hc hn
      go_wp2_with (first | (go_at_call 51; refine (node_any _ _ _).mono ?_; rintro e w' ⟨rfl, hw⟩; rw [hw]; clear hw w') | (at_make; refine wp_make (f := Value.bool) false sBoolG rfl _ rfl _ _ rfl .i64 .i64 _ _ n rfl rfl rfl rfl (by omega) (by unfold maxLen; omega) ?_))
      intro s cap W2 hrow hb2
      have hnew := PoW.new (bg := bs) (B0 := W1.heap.size) hrow hb2.size (H1.out.2.2.below hb2) (H1.out.1.below hb2) n1 (by have := HBC.out; omega)
      have hcall := visitP_any W2.heap.size (W2.heap.size + 1) (W2.heap.size + 1 + 1) bs W1.heap.size (W2.heap.size + 1 + 1 + 1) n cap s g ca cc HV.out.1 HV.out.2 n v ([], []) (.slice none 0 0) _ hnew (by simp) hvn (by simp) (by simp)
      have hb3 := ((hb2.alloc hb2.size (.cells #[.slice s n cap] 49)).alloc (by rw [World.size_alloc]; have := hb2.size; omega) (.cells #[.slice none 0 0] 31)).alloc (by rw [World.size_alloc, World.size_alloc]; have := hb2.size; omega) (.cells #[.func (.func 53) #[] #[.pointer (some ⟨W2.heap.size, 0, none⟩), .pointer (some ⟨bs, 0, none⟩), .pointer (some ⟨W2.heap.size + 1 + 1, 0, none⟩), .pointer (some ⟨W2.heap.size + 1, 0, none⟩)]] 73)
      have HC := Lib.hid (And.intro hcall hb3)
      clear hrow hb2 hnew hcall hb3
      go_wp2_with fail
      refine HC.out.1.mono ?_
      rintro e W3 ⟨rfl, ov', p1, p2⟩
      obtain ⟨os, oc, rfl⟩ := p1.lst.shape (n := (dfs g.es n v ([], [])).2.length) (by rw [List.length_map])
      have l1 := p1.lx
      have HP := Lib.hid (And.intro p1 (HC.out.2.trans p2.below))
      clear p1 p2
      go_wp2_with fail
      go_ret
      refine ⟨os, oc, by rw [HN.out]; rfl, ?_, by rw [HBS.out]; exact H1.out.2.1.trans (HP.out.2.mono (Nat.le_of_lt n1))⟩
      rw [HN.out]; exact HP.out.1.lst.mono (by have := HP.out.1.ne; have h9 := HP.out.2.size; rw [HBS.out]; omega)
  · have hz : (gCode g != 0) = true := by simpa using hc
    have HN : Hid (postZ g r = []) := Lib.hid (by unfold postZ nodeG; simp [hc])
    clear hc
    go_wp2_with fail
    go_ret
    exact ⟨none, 0, by rw [HN.out]; rfl, by rw [HN.out]; exact Go.Dfl.Own.nil _ _ _ _, by rw [HBS.out]; exact H1.out.2.1⟩
theorem gPostorder_any (g : G) (cv : Value) (r : Int) (W : World) (h : Pairs W cv g.es) : Calls Try.prog 44 #[GV g cv, .int .i64 r] W (PostR g r W) :=
  (gPostorder_own g cv r W h).mono fun _ _ h => h.any
end Go.Proofs.Ytlijimdkadobmaa
