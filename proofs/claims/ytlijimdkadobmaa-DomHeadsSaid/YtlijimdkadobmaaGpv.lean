/- Contract of Postorder's visit. -/
import Derived.Test.YtlijimdkadobmaaGpo
namespace Go.Proofs.Ytlijimdkadobmaa
open Go.RowKit Go.Dfl Go.Gra Go.Shelf
attribute [local go_sem] Oper.semAt_some

theorem RcK.trans {bo B0 : Nat} {rv o1 o2 o3 : Value} {A B C : World} (h : RcK bo B0 rv o1 o2 A B) (k : RcK bo B0 rv o2 o3 B C) : RcK bo B0 rv o1 o3 A C := by
  have hz := h.oth.size
  refine ⟨h.below.trans k.below, h.oth.trans k.oth, fun q hq h1 h2 h3 => ?_, ?_⟩
  · rw [k.blk q (by omega) h1 h2 (fun e => ?_), h.blk q hq h1 h2 h3]
    rcases h.at_ with h4 | h4
    · exact h3 (h4 ▸ e)
    · have := h4 q e; omega
  · rcases k.at_ with h4 | h4
    · rcases h.at_ with h5 | h5
      · exact .inl (h4.trans h5)
      · exact .inr fun q e => h5 q (h4 ▸ e)
    · exact .inr fun q e => by have := h4 q e; omega
theorem RcK.grownAt {bo B0 : Nat} {rv o1 o2 : Value} {A B C : World} {row : Option Nat} (h : RcK bo B0 rv o1 o2 A B) (hA : B0 ≤ A.heap.size) (hg : B.grownBy C row) (hr : ∀ k, row = some k → A.heap.size ≤ k) : RcK bo B0 rv o1 o2 A C := by
  have hz := h.oth.size
  have hne : ∀ q, q < A.heap.size → some q ≠ row := fun q hq e => by have := hr q e.symm; omega
  refine ⟨h.below.grown hg (by omega) (fun k e => by have := hr k e; omega), ⟨Nat.le_trans hz hg.size, fun q o ho hc => ?_⟩, fun q hq h1 h2 h3 => ?_, h.at_⟩
  · have hq := (Array.getElem?_eq_some_iff.1 ho).1
    rw [hg.block q (by omega) (hne q hq)]
    exact h.oth.same q o ho hc
  · rw [hg.block q (by omega) (hne q hq), h.blk q hq h1 h2 h3]
section
variable {bv bl bf bg B0 B n cap : Nat} {s : Option Addr} {g : G} {ca : Option Addr} {cc : Nat}
/-- A node is marked. -/
theorem PoW.mark {t : List Nat × List Nat} {ov : Value} {W : World} (h : PoW bv bl bf bg B0 B n cap s g ca cc t ov W) {v : Nat} (hv : v < n) (hn : ¬ v ∈ t.1) :
    PoW bv bl bf bg B0 B n cap s g ca cc (t.1 ++ [v], t.2) ov (W.setCell ⟨blk s, ofs s + v, none⟩ (.bool true)) ∧ RcK bl B0 (.slice s n cap) ov ov W (W.setCell ⟨blk s, ofs s + v, none⟩ (.bool true)) := by
  obtain ⟨ho, -⟩ := own_at h.row (by rw [visB_len]; omega)
  obtain ⟨s1, s2, s3, s4, s5⟩ := h.sep _ ho
  obtain ⟨l1, l2, l3, l4⟩ := h.lts
  have hne := h.ne
  have gS := grownBy_setCell W ⟨blk s, ofs s + v, none⟩ (.bool true)
  have hB0 := (h.row.lt _ ho).1
  have hr : ∀ q, q ≠ blk s → some q ≠ some (⟨blk s, ofs s + v, none⟩ : Addr).block := fun q hq e => hq (Option.some.inj e)
  have hrow := h.row.set v true
  rw [visB_set hv] at hrow
  have hov : ov.ownBlock ≠ some (blk s) := fun e => by have := (h.lst.lt _ e).1; omega
  refine ⟨⟨gS.cell h.bx (hr bv s1.symm), hrow, gS.cell h.lx (hr bl s2.symm), frozen_kept gS l2 (hr bl s2.symm) h.lfr, h.lst.grown gS (.inr hov), gS.cell h.fn (hr bf s3.symm), ⟨gS.cell h.box.1 (hr bg s4.symm), gS.cell h.box.2 (hr bg s4.symm)⟩, ?_, h.sep, by rw [World.size_setCell]; exact hne, h.hes, h.ok.snoc hv hn _, by simp; have := h.cnt; omega⟩, ⟨(Below.refl B0 W).setCell (p := ⟨blk s, ofs s + v, none⟩) hB0 _, KeepsOthers.setCell _ _ _, fun q hq h1 h2 h3 => ?_, .inl rfl⟩⟩
  · obtain ⟨a, c, he, h1, h2, h3⟩ := h.es
    simp only [Value.slice.injEq] at he
    obtain ⟨rfl, -, rfl⟩ := he
    refine ⟨ca, cc, rfl, h1, h2, fun i hi => ⟨(h3 i hi).1, by rw [World.size_setCell]; exact (h3 i hi).2.1, fun j hj => gS.cell ((h3 i hi).2.2 j hj) (hr (blk ca) ?_)⟩⟩
    have h4 := h.hes
    unfold bcOf at h4
    rw [if_neg (fun e => by rw [e] at hi; simp at hi)] at h4
    omega
  · exact gS.block q hq (hr q fun e => h2 (by rw [ho, e]))
/-- A node is done. -/
theorem PoW.put {t : List Nat × List Nat} {ov v' : Value} {W w3 : World} (h : PoW bv bl bf bg B0 B n cap s g ca cc t ov W) {v : Nat} (hc : t.2.length < t.1.length) (hown : OwnI w3 B 3 v' ((t.2.map fun x : Nat => (x : Int)) ++ [(v : Int)])) (hgr : (W.alloc (.cells #[.int .i64 (v : Int)] 3)).grownBy w3 ov.ownBlock)
    (hat : v'.ownBlock = ov.ownBlock ∨ v'.ownBlock = some (W.alloc (.cells #[.int .i64 (v : Int)] 3)).heap.size) :
    PoW bv bl bf bg B0 B n cap s g ca cc (t.1, t.2 ++ [v]) v' (w3.setCell ⟨bl, 0, none⟩ v') ∧ RcK bl B0 (.slice s n cap) ov v' W (w3.setCell ⟨bl, 0, none⟩ v') := by
  obtain ⟨l1, l2, l3, l4⟩ := h.lts
  have hne := h.ne
  have gA := grownBy_alloc W (.cells #[.int .i64 (v : Int)] 3)
  have gB := grownBy_setCell w3 ⟨bl, 0, none⟩ v'
  have hz1 : (W.alloc (.cells #[.int .i64 (v : Int)] 3)).heap.size = W.heap.size + 1 := World.size_alloc _ _
  rw [hz1] at hat
  have hz3 := hgr.size
  rw [hz1] at hz3
  have hovB : ∀ q, ov.ownBlock = some q → B ≤ q ∧ q < W.heap.size := h.lst.lt
  have hvB : ∀ q, v'.ownBlock = some q → B ≤ q := fun q e => (hown.lt q e).1
  have hk : ∀ q, q < W.heap.size → q ≠ bl → ov.ownBlock ≠ some q → (w3.setCell ⟨bl, 0, none⟩ v').heap[q]? = W.heap[q]? := fun q hq hqb hqo => by
    rw [gB.block q (by omega) (fun e => hqb (Option.some.inj e)), hgr.block q (by rw [hz1]; omega) (fun e => hqo e.symm), gA.block q hq (by simp)]
  have hko : ∀ q, q < B → ov.ownBlock ≠ some q := fun q hq e => by have := hovB q e; omega
  have kv := hk bv l1 hne.1 (hko bv (by omega))
  have kf := hk bf l3 (fun e => hne.2.1 e.symm) (hko bf (by omega))
  have kg := hk bg l4 hne.2.2.2.2.1 (hko bg (by omega))
  have c1 : w3.cell? ⟨bl, 0, none⟩ = some ov := hgr.cell (gA.cell h.lx (by simp)) (fun e => hko bl (by omega) e.symm)
  have f1 : w3.frozen? ⟨bl, 0, none⟩ = false := frozen_kept hgr (by rw [hz1]; omega) (fun e => hko bl (by omega) e.symm) (frozen_kept gA l2 (by simp) h.lfr)
  refine ⟨⟨?_, ?_, World.cell?_setCell_same w3 _ _ c1, by rw [World.frozen?_setCell]; exact f1, ?_, ?_, ⟨?_, ?_⟩, ?_, h.sep, ?_, h.hes, ⟨h.ok.mem, h.ok.nd⟩, by rw [List.length_append, List.length_singleton]; exact hc⟩, ?_, ?_, fun q hq h1 _ h3 => hk q hq h1 h3, ?_⟩
  · rw [World.cell?_of_block (a := ⟨bv, 0, none⟩) kv]; exact h.bx
  · refine ((h.row.grown gA (by cases (Value.slice s n cap).ownBlock <;> simp)).grown hgr ?_).grown gB ?_
    · cases e : (Value.slice s n cap).ownBlock with
      | none => exact .inl rfl
      | some q => exact .inr fun e2 => hko q (h.sep q e).2.2.2.2 e2.symm
    · cases e : (Value.slice s n cap).ownBlock with
      | none => exact .inl rfl
      | some q => exact .inr fun e2 => (h.sep q e).2.1 (Option.some.inj e2)
  · rw [List.map_append]
    refine hown.grown gB ?_
    cases e : v'.ownBlock with
    | none => exact .inl rfl
    | some q => exact .inr fun e2 => by have h1 := hvB q e; have h2 : q = bl := Option.some.inj e2; omega
  · rw [World.cell?_of_block (a := ⟨bf, 0, none⟩) kf]; exact h.fn
  · rw [World.cell?_of_block (a := ⟨bg, 0, none⟩) kg]; exact h.box.1
  · rw [World.cell?_of_block (a := ⟨bg, 1, none⟩) kg]; exact h.box.2
  · obtain ⟨a, c, he, h1, h2, h3⟩ := h.es
    simp only [Value.slice.injEq] at he
    obtain ⟨rfl, -, rfl⟩ := he
    refine ⟨ca, cc, rfl, h1, h2, fun i hi => ⟨(h3 i hi).1, by rw [World.size_setCell]; have := (h3 i hi).2.1; omega, fun j hj => ?_⟩⟩
    have h4 := h.hes
    unfold bcOf at h4
    rw [if_neg (fun e => by rw [e] at hi; simp at hi)] at h4
    rw [World.cell?_of_block (a := ⟨blk ca, ofs ca + i * 2 + j, none⟩) (hk (blk ca) (h3 i hi).2.1 (by omega) (hko (blk ca) (by omega)))]
    exact (h3 i hi).2.2 j hj
  · rw [World.size_setCell]
    exact ⟨hne.1, hne.2.1, hne.2.2.1, hne.2.2.2.1, hne.2.2.2.2.1, hne.2.2.2.2.2.1, hne.2.2.2.2.2.2.1, hne.2.2.2.2.2.2.2.1, hne.2.2.2.2.2.2.2.2.1, hne.2.2.2.2.2.2.2.2.2.1, hne.2.2.2.2.2.2.2.2.2.2.1, hne.2.2.2.2.2.2.2.2.2.2.2.1, by omega⟩
  · exact (((Below.refl B0 W).alloc (by omega) _).grown hgr (by rw [hz1]; omega) (fun q e => by have := hovB q e; omega)).setCell (p := ⟨bl, 0, none⟩) (by show B0 ≤ bl; omega) _
  · refine ((KeepsOthers.alloc _ _).trans (KeepsOthers.of_grownBy hgr fun j o' e ho' => ?_)).trans (KeepsOthers.setCell _ _ _)
    exact own_isCells (h.lst.alloc _) e ho'
  · rcases hat with h1 | h1
    · exact .inl h1
    · exact .inr fun q e => by rw [h1] at e; have := Option.some.inj e; omega
end
def PoR (bv bl bf bg B0 B n cap : Nat) (s : Option Addr) (g : G) (ca : Option Addr) (cc : Nat) (r : List Nat × List Nat) (ov : Value) (W : World) (e : Ending) (W' : World) : Prop :=
  e = .returned (.tuple #[]) ∧ ∃ ov', PoW bv bl bf bg B0 B n cap s g ca cc r ov' W' ∧ RcK bl B0 (.slice s n cap) ov ov' W W'
set_option maxHeartbeats 3200000 in
set_option maxRecDepth 100000 in
theorem visitP_any (bv bl bf bg B0 B n cap : Nat) (s : Option Addr) (g : G) (ca : Option Addr) (cc : Nat) (hvg : VG g) (hn : g.n = n) : ∀ (k v : Nat) (t : List Nat × List Nat) (ov : Value) (W : World), PoW bv bl bf bg B0 B n cap s g ca cc t ov W → t.2.length ≤ t.1.length → v < n → ¬ v ∈ t.1 → n ≤ t.1.length + k →
    Calls Try.prog 53 #[.int .i64 (v : Int), .pointer (some ⟨bv, 0, none⟩), .pointer (some ⟨bg, 0, none⟩), .pointer (some ⟨bf, 0, none⟩), .pointer (some ⟨bl, 0, none⟩)] W (PoR bv bl bf bg B0 B n cap s g ca cc (dfs g.es k v t) ov W) := by
  intro k
  induction k with
  | zero =>
    intro v t ov W h _ hv hnv hk
    have h1 := (h.ok.snoc hv hnv []).le
    simp at h1; omega
  | succ k ih =>
    intro v t ov W h hct hv hnv hk
    obtain ⟨m1, m2⟩ := h.mark hv hnv
    have hn8 : n ≤ 8192 := by have := hvg.n1; omega
    have b1 := h.bx
    obtain ⟨c0, c1⟩ := h.box
    obtain ⟨ho, -⟩ := own_at h.row (by rw [visB_len]; omega)
    obtain ⟨s1, s2, s3, s4, s5⟩ := h.sep _ ho
    obtain ⟨a9, c9, he, hm9, hidx, hcell, -⟩ := h.row.lst.out1 sBoolG
    rw [visB_len] at he hm9 hidx hcell
    simp only [Value.slice.injEq] at he
    obtain ⟨rfl, -, rfl⟩ := he
    have cx := hcell v hv
    have hii := hidx .i64 (v : Int) (by omega) (by omega)
    rw [Int.toNat_natCast] at hii
    have hf0 := h.row.frozen (by rw [visB_len]; omega) (ofs s + v)
    have hne := h.ne
    have hcn := h.cnt
    have HM := Lib.hid (And.intro m1 (And.intro m2 (And.intro hne (And.intro ih (And.intro h.ok (And.intro hct (And.intro hnv (And.intro hk hcn))))))))
    have HV := Lib.hid (And.intro hvg hn)
    rw [hn] at c0
    clear m1 m2 h hidx hcell hne hcn ih hvg hct hnv hk
    refine (callsIn_wide (n := 5)).1 ?_
    refine callsIn_of_wp_marks Try.func53 rfl trivial ?_ rfl
    simp only [Try.ntmps53, List.size_toArray, List.length_cons, List.length_nil, Nat.reduceAdd, Nat.reduceSub, Array.replicate_succ, Array.replicate_zero, List.push_toArray, List.append_toArray, List.nil_append, List.cons_append]
    refine wpIn_wide.2 ?_
    have hsu : ∀ Z, Calls Try.prog 54 #[.agg #[.int .i64 n, .slice ca g.es.length cc], .int .i64 (v : Int)] Z fun e W' => e = .returned (.func (.func 58) #[] #[.pointer (some ⟨Z.heap.size, 0, none⟩), .pointer (some ⟨Z.heap.size + 1, 0, none⟩)]) ∧ W' = (Z.alloc (.cells #[.int .i64 n, .slice ca g.es.length cc] 24)).alloc (.cells #[.int .i64 (v : Int)] 3) := fun Z => by have h1 := succ_any g (.slice ca g.es.length cc) v Z; unfold GV at h1; rw [hn] at h1; exact h1
    have HSU := Lib.hid hsu
    clear hsu hn
    have s4' : bg ≠ blk s := fun e => s4 e.symm
    go_wp2_with (go_at_call 54; refine (HSU.out _).mono ?_; rintro e w' ⟨rfl, hw⟩; rw [hw]; clear hw w')
    have hzV : (W.setCell ⟨blk s, ofs s + v, none⟩ (.bool true)).heap.size = W.heap.size := World.size_setCell _ _ _
    generalize W.setCell ⟨blk s, ofs s + v, none⟩ (.bool true) = V at *
    have hbz : Below V.heap.size V ((V.alloc (.cells #[.int .i64 (n : Int), .slice ca g.es.length cc] 24)).alloc (.cells #[.int .i64 (v : Int)] 3)) := ((Below.refl V.heap.size V).alloc (Nat.le_refl _) _).alloc (by rw [World.size_alloc]; omega) _
    have hrd := RdS.new (v := v) HM.out.1.es
    rw [HV.out.2, hzV] at hrd
    have hsz3 : ((V.alloc (.cells #[.int .i64 (n : Int), .slice ca g.es.length cc] 24)).alloc (.cells #[.int .i64 (v : Int)] 3)).heap.size = W.heap.size + 2 := by rw [World.size_alloc, World.size_alloc, hzV]
    have hBW : B0 ≤ W.heap.size ∧ B ≤ W.heap.size := by have := HM.out.2.2.1; omega
    have hp2 := HM.out.1.grown (grownBy_below hbz) (by simp)
    have hk2 := HM.out.2.1.grownAt hBW.1 (grownBy_below hbz) (by simp)
    have hovz : ∀ q, ov.ownBlock = some q → q < W.heap.size := fun q e => by have := (HM.out.1.lst.lt q e).2; omega
    have hbco : bcOf g ca W.heap.size = W.heap.size ∨ bcOf g ca W.heap.size < B0 := by
      have h4 := HM.out.1.hes
      unfold bcOf at h4 ⊢
      split
      · exact .inl rfl
      · rename_i hne; rw [if_neg hne] at h4; exact .inr h4
    refine gen_code (fun Z => PoW bv bl bf bg B0 B n cap s g ca cc (t.1 ++ [v], t.2) ov Z ∧ RcK bl B0 (.slice s n cap) ov ov W Z ∧ RdS g v W.heap.size (W.heap.size + 1) ca cc Z ∧ Z.heap.size = W.heap.size + 2) ⟨hp2, hk2, hrd, hsz3⟩ ?_
    intro Z3 hz3
    have H3 := Lib.hid (And.intro hz3 (And.intro hovz (And.intro hbco hBW)))
    have hne := HM.out.2.2.1
    clear hz3 hbz hrd hsz3 hp2 hk2 hovz hbco hBW b1 c0 c1 cx hii hf0 HSU hzV
    obtain ⟨z, hz⟩ : ∃ z, z = W.heap.size := ⟨_, rfl⟩
    rw [← hz] at H3 ⊢
    refine (wpIn_wide (n := 5)).1 ?_
    refine wpIn_rangeFunc_ownG rfl (by omega) (gf := 58) (lb := #[.pointer (some ⟨z, 0, none⟩), .pointer (some ⟨z + 1, 0, none⟩)]) rfl trivial (enters_of Try.func58 (by kernel_rfl) rfl)
      (suc_stops g HV.out.1 v z (z + 1) ca cc _ 4 (by omega) H3.out.1.1.es H3.out.1.2.2.1) (fun h k => h.trans k) ?hKb (Below.refl _ _) (fun _ => rfl)
      (fun pre Z => ∃ ov', PoW bv bl bf bg B0 B n cap s g ca cc ((vals pre).foldl (dst g.es k) (t.1 ++ [v], t.2)) ov' Z ∧ RcK bl B0 (.slice s n cap) ov ov' W Z ∧ (∀ q, ov'.ownBlock = some q → q ≠ z ∧ q ≠ z + 1) ∧ z + 2 ≤ Z.heap.size) (fun _ _ _ => False)
      ?own (fun _ _ _ _ _ hs _ _ => hs) ⟨_, H3.out.1.1, H3.out.1.2.1, fun q e => by have := H3.out.2.1 q e; omega, by have := H3.out.1.2.2.2; omega⟩ ?a1 ?assign ?body ?done ?stop
    case hKb =>
      intro Z l' o' o'' hlz hlo ho' hwk
      rw [H3.out.1.2.2.2] at hlz
      have hbc := H3.out.2.2.1
      have hB := H3.out.2.2.2
      exact KpS.grown (grownBy_putObj' Z l' o'') (fun k e => by have e2 := Option.some.inj e; omega)
    case own =>
      rintro pre A C row ⟨ov', h1, h2, h3, h4⟩ hg hr
      rw [H3.out.1.2.2.2] at hr
      have hB := H3.out.2.2.2
      refine ⟨ov', h1.grown hg (fun q e => ⟨by have := (hr q e).1; omega, fun e2 => ?_⟩), h2.grownAt (by omega) hg (fun q e => by have := (hr q e).1; omega), h3, Nat.le_trans h4 hg.size⟩
      obtain ⟨-, ob, ho1, ho2⟩ := hr q e
      rw [own_isCells h1.lst e2 ho1] at ho2
      cases ho2
    case assign =>
      intro l' x Z K hK
      gi_wp2
      exact hK
    case body =>
      rintro l' pre x Z ⟨ov', h1, h2, h3, h4⟩ hlt'
      have hx : x.1 < n := by have h9 := x.2; have e9 := HV.out.2; omega
      obtain ⟨t', ht'⟩ : ∃ t', t' = (vals pre).foldl (dst g.es k) (t.1 ++ [v], t.2) := ⟨_, rfl⟩
      have hgn : g.n.toNat = n := by have e9 := HV.out.2; omega
      have hdf := dst_part HV.out.1 (k := k) (l := vals pre) (t := (t.1 ++ [v], t.2)) (by rw [hgn]; exact HM.out.2.2.2.2.1.snoc hv HM.out.2.2.2.2.2.2.1 _) (by rw [hgn]; have := HM.out.2.2.2.2.2.2.2.1; simp; omega) (fun w hw => by
        obtain ⟨y, -, rfl⟩ := List.mem_map.1 hw
        exact y.2)
      rw [← ht'] at h1 hdf
      have hlen := hdf.pre.length_le
      rw [List.length_append, List.length_singleton] at hlen
      have hk' : n ≤ t'.1.length + k := by have := HM.out.2.2.2.2.2.2.2.1; omega
      have hb1 := h1.bx
      have hfn := h1.fn
      obtain ⟨a9, c9, he, hm9', hidx, hcell, -⟩ := h1.row.lst.out1 sBoolG
      rw [visB_len] at he hm9' hidx hcell
      simp only [Value.slice.injEq] at he
      obtain ⟨rfl, -, rfl⟩ := he
      have cx := hcell x.1 hx
      rw [visB_nth hx] at cx
      have hii := hidx .i64 (x.1 : Int) (by omega) (by omega)
      rw [Int.toNat_natCast] at hii
      have HI := Lib.hid (And.intro h1 (And.intro h2 (And.intro h3 (And.intro h4 (And.intro ht' hk')))))
      clear h2 h3 h4 ht' hdf hlen hk' hidx hcell hlt'
      by_cases hm : x.1 ∈ t'.1
      · rw [decide_eq_true hm] at cx
        have hs : dst g.es k t' x.1 = t' := by unfold dst; rw [if_pos hm]
        have HS := Lib.hid hs
        clear hm hs h1
        gi_wp2
        obtain ⟨j1, j2, j3, j4, j5, -⟩ := HI.out
        refine ⟨(KeepsOthers.refl _).from _, fun q hq hql => rfl, ov', ?_, j2, j3, j4⟩
        rw [vals_snoc, List.foldl_append, ← j5]
        show PoW _ _ _ _ _ _ _ _ _ _ _ _ (dst g.es k t' x.1) _ _
        rw [HS.out]
        exact j1
      · rw [decide_eq_false hm] at cx
        have hs : dst g.es k t' x.1 = dfs g.es k x.1 t' := by unfold dst; rw [if_neg hm]
        have hcall := HM.out.2.2.2.1 x.1 t' ov' Z h1 h1.cnt hx hm HI.out.2.2.2.2.2
        have HS := Lib.hid (And.intro hs hcall)
        clear hm hs h1 hcall
        gi_wp2_with (refine ⟨trivial, ?_⟩; gi_at_call 53; refine (CallsIn.inRound l' (callsIn_wide.2 HS.out.2)).mono ?_; rintro e w' ⟨rfl, ov'', r1, r2⟩; have HR := Lib.hid (And.intro r1 r2); clear r1 r2)
        obtain ⟨k1, k2⟩ := HR.out
        obtain ⟨j1, j2, j3, j4, j5, -⟩ := HI.out
        have hbo := H3.out.2.2.1
        have hB := H3.out.2.2.2
        refine ⟨k2.oth.from _, fun q hq hql => ?_, ov'', ?_, j2.trans k2, fun q e => ?_, Nat.le_trans j4 k2.oth.size⟩
        · refine k2.blk q hql ?_ (fun e => ?_) (fun e => ?_)
          · omega
          · have := (j1.sep q e).2.2.2.2; have := (j1.row.lt q e).1; omega
          · have := j3 q e; have := (j1.lst.lt q e).1; omega
        · rw [vals_snoc, List.foldl_append, ← j5]
          show PoW _ _ _ _ _ _ _ _ _ _ _ _ (dst g.es k t' x.1) _ _
          rw [HS.out.1]
          exact k1
        · rcases k2.at_ with e2 | e2
          · rw [e2] at e; exact j3 q e
          · have := e2 q e; omega
    case done =>
      rintro D ys Z hD hys ⟨ov', h1, h2, h3, h4⟩ hK
      rw [hys] at h1
      rw [H3.out.1.2.2.2] at hD
      have hgn : g.n.toNat = n := by have e9 := HV.out.2; omega
      have hdf := dst_part HV.out.1 (k := k) (l := suc g.es v) (t := (t.1 ++ [v], t.2)) (by rw [hgn]; exact HM.out.2.2.2.2.1.snoc hv HM.out.2.2.2.2.2.2.1 _) (by rw [hgn]; have := HM.out.2.2.2.2.2.2.2.1; simp; omega) (fun w hw => suc_node HV.out.1 hw)
      obtain ⟨t', ht'⟩ : ∃ t', t' = (suc g.es v).foldl (dst g.es k) (t.1 ++ [v], t.2) := ⟨_, rfl⟩
      rw [← ht'] at h1 hdf
      have hcnt := hdf.cnt
      have hpl := h1.ok.le
      simp only [List.length_append, List.length_singleton] at hcnt
      have hc : t'.2.length < t'.1.length := by have := HM.out.2.2.2.2.2.1; omega
      have hres : dfs g.es (k + 1) v t = (t'.1, t'.2 ++ [v]) := by rw [dfs_succ, ht']
      obtain ⟨os, oc, rfl⟩ := h1.lst.shape (n := t'.2.length) (by rw [List.length_map])
      have l1 := h1.lx
      have lf := h1.lfr
      have hbl := h1.lts
      have hll : (t'.2.map fun x : Nat => (x : Int)).length < 17592186044416 := by rw [List.length_map]; omega
      have hBZ : B ≤ Z.heap.size := by have := h1.ne; omega
      have hno : some bl ≠ (Value.slice os t'.2.length oc).ownBlock := fun e => by have := (h1.lst.lt _ e.symm).1; have := h1.ne; omega
      have hop : OpenM B [D] Z := (OpenM.nil B Z).cons (by have := H3.out.2.2.2; omega) (by simp) hK
      have HE := Lib.hid (And.intro h1 (And.intro h2 (And.intro hc (And.intro hres (And.intro hll (And.intro hBZ (And.intro hno hop)))))))
      clear h1 h2 h3 hcnt hpl hc hres hll hBZ hno hop hdf ht' hK hys
      have hblz : bl ≠ Z.heap.size := by omega
      go_wp2_with (at_builtin; refine wp_append1at (f := Value.int .i64) sIntG rfl _ rfl _ _ rfl B _ (t'.2.map fun x : Nat => (x : Int)) rfl (HE.out.1.lst.alloc _) (v : Int) ⟨Z.heap.size, 0, none⟩ rfl (cell_alloc1 _ _ _) rfl HE.out.2.2.2.2.1 (by omega) (le_alloc _ HE.out.2.2.2.2.2.1) ?_; intro v' w3 hown hgr hat; obtain ⟨s9, c9, rfl⟩ := hown.shape (n := t'.2.length + 1) (by rw [List.length_append, List.length_map]; rfl); have e1 := hgr.cell ((grownBy_alloc Z (.cells #[.int .i64 (v : Int)] 3)).cell l1 (by simp)) HE.out.2.2.2.2.2.2.1; have f1 : w3.frozen? ⟨bl, 0, none⟩ = false := (frozen_kept hgr (by rw [World.size_alloc]; omega) HE.out.2.2.2.2.2.2.1 (frozen_kept (grownBy_alloc Z (.cells #[.int .i64 (v : Int)] 3)) hbl.2.1 (by simp) lf)); have HO := Lib.hid (And.intro hown (And.intro hgr hat)); clear hown hgr hat)
      obtain ⟨m1, m2⟩ := HE.out.1.put HE.out.2.2.1 HO.out.1 HO.out.2.1 HO.out.2.2
      have hop2 : OpenM B [D] (w3.setCell ⟨bl, 0, none⟩ (.slice s9 (t'.2.length + 1) c9)) := HE.out.2.2.2.2.2.2.2.kept fun D' hD' => by
        have h9 := (HE.out.2.2.2.2.2.2.2.op D' hD').2
        rw [m2.oth.same D' _ h9 rfl, h9]
      refine leaves_marks (Ds := [D]) (B := B) hop2 ⟨_, results_none rfl _ _ _, rfl, .slice s9 (t'.2.length + 1) c9, ?_, ?_⟩
      · rw [HE.out.2.2.2.1]
        have hDo := hop2.op D (by simp)
        exact m1.grown (grownBy_putObj' _ D (.deferred none)) (fun q e => by
          have e2 : D = q := Option.some.inj e
          subst e2
          exact ⟨hDo.1, fun e3 => by
            rcases own_ne_obj m1.lst hDo.2 rfl with h9 | h9
            · rw [h9] at e3; cases e3
            · exact h9 e3⟩)
      · exact (HE.out.2.1.trans m2).grownAt (by have := H3.out.2.2.2; omega) (grownBy_putObj' _ D (.deferred none)) (fun q e => by have e2 : D = q := Option.some.inj e; omega)
    case stop =>
      rintro D c pre Z _ _ h _
      exact h.elim
end Go.Proofs.Ytlijimdkadobmaa
