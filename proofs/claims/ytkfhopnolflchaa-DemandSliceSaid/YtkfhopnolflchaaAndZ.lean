/- Contract of the solver's visit. -/
import Derived.Test.YtkfhopnolflchaaAndY
namespace Go.And
/-- The edges that one site of a node brings. -/
def vj (S : Syst) (ld sr : List C) (y : Nat) : List (Nat × Nat) := (ld.map fun c => (S.cell y c.f, c.b)) ++ (sr.map fun c => (c.a, S.cell y c.f))
theorem vj_len (S : Syst) (ld sr : List C) : ∀ L : List Nat, (L.flatMap (vj S ld sr)).length = L.length * (ld.length + sr.length)
  | [] => by simp
  | y :: L => by
    rw [List.flatMap_cons, List.length_append, vj_len S ld sr L, List.length_cons, Nat.succ_mul]
    simp [vj]; omega
/-- What visit asks of the state. -/
structure VisOk (S : Syst) (node : Nat) (st : St) : Prop where
  cp : ∀ t ∈ st.cp node, t < S.N
  pt : ∀ e ∈ st.pt node, e.1 < S.N
  ld : ∀ c ∈ st.ld node, c.b < S.N ∧ c.f < S.fields
  sr : ∀ c ∈ st.sr node, c.a < S.N ∧ c.f < S.fields
  bnd : ∀ j x, st.p j x = true → x < S.sites
  fb : ∀ x, st.f node x = true → x < S.sites
  ldl : (st.ld node).length ≤ 300
  srl : (st.sr node).length ≤ 300
  todo : st.todo.length ≤ 500000
  cpl : ∀ i, (st.cp i).length ≤ 50000000
  ns : S.N * S.sites ≤ 500000

/-- The state between two steps of a visit. -/
structure Mid (S : Syst) (st st2 : St) (k : Nat) : Prop where
  bnd : ∀ j x, st2.p j x = true → x < S.sites
  todo : st2.todo.length + mass S st ≤ st.todo.length + mass S st2
  cp : ∀ i, (st2.cp i).length ≤ (st.cp i).length + k
  pt : st2.pt = st.pt
  ld : st2.ld = st.ld
  sr : st2.sr = st.sr
theorem Mid.refl {S : Syst} {st : St} (h : ∀ j x, st.p j x = true → x < S.sites) : Mid S st st 0 := ⟨h, Nat.le_refl _, fun _ => Nat.le_refl _, rfl, rfl, rfl⟩
theorem Mid.puts {S : Syst} {st a b : St} {k : Nat} {l : List (Nat × (Nat → Bool))} (h : Mid S st a k) (hp : Puts l a b) (hl : ∀ e ∈ l, e.1 < S.N ∧ ∀ x, e.2 x = true → x < S.sites) : Mid S st b k := by
  have q := hp.mass hl
  have l := hp.le
  refine ⟨hp.bnd (fun e he => (hl e he).2) h.bnd, by have := h.todo; omega, fun i => by rw [hp.len]; exact h.cp i, by rw [l.2.2.2.1, h.pt], by rw [l.2.2.2.2.1, h.ld], by rw [l.2.2.2.2.2, h.sr]⟩
theorem Mid.joins {S : Syst} {st a b : St} {k : Nat} {l : List (Nat × Nat)} (h : Mid S st a k) (hp : Joins l a b) (hl : ∀ e ∈ l, e.2 < S.N) : Mid S st b (k + l.length) := by
  have q := hp.mass hl h.bnd
  have l := hp.le
  refine ⟨hp.bnd h.bnd, by have := h.todo; omega, fun i => by have := hp.len i; have := h.cp i; omega, by rw [l.2.2.2.1, h.pt], by rw [l.2.2.2.2.1, h.ld], by rw [l.2.2.2.2.2, h.sr]⟩
theorem Mid.todoLe {S : Syst} {st a : St} {k : Nat} (h : Mid S st a k) (ht : st.todo.length ≤ 500000) (hn : S.N * S.sites ≤ 500000) : a.todo.length ≤ 1000000 := by
  have := h.todo; have := mass_le S a; omega
theorem vj_sub1 {S : Syst} {ld sr : List C} {L : List Nat} {j i : Nat} (hj : j < L.length) {e : Nat × Nat} (he : e ∈ (L.take j).flatMap (vj S ld sr) ++ (ld.take i).map fun c => (S.cell (Go.Dfl.nth L j) c.f, c.b)) : e ∈ L.flatMap (vj S ld sr) := by
  rcases List.mem_append.1 he with h | h
  · obtain ⟨y, hy, h⟩ := List.mem_flatMap.1 h
    exact List.mem_flatMap.2 ⟨y, List.mem_of_mem_take hy, h⟩
  · obtain ⟨c, hc, rfl⟩ := List.mem_map.1 h
    exact List.mem_flatMap.2 ⟨_, Go.Dfl.nth_mem L j hj, List.mem_append.2 (.inl (List.mem_map.2 ⟨c, List.mem_of_mem_take hc, rfl⟩))⟩
theorem vj_sub2 {S : Syst} {ld sr : List C} {L : List Nat} {j i : Nat} (hj : j < L.length) {e : Nat × Nat} (he : e ∈ ((L.take j).flatMap (vj S ld sr) ++ ld.map fun c => (S.cell (Go.Dfl.nth L j) c.f, c.b)) ++ (sr.take i).map fun c => (c.a, S.cell (Go.Dfl.nth L j) c.f)) : e ∈ L.flatMap (vj S ld sr) := by
  rcases List.mem_append.1 he with h | h
  · exact vj_sub1 (i := ld.length) hj (by rw [List.take_length]; exact h)
  · obtain ⟨c, hc, rfl⟩ := List.mem_map.1 h
    exact List.mem_flatMap.2 ⟨_, Go.Dfl.nth_mem L j hj, List.mem_append.2 (.inr (List.mem_map.2 ⟨c, List.mem_of_mem_take hc, rfl⟩))⟩
theorem vj_small {S : Syst} {ld sr : List C} {L : List Nat} (hL : L.length ≤ 65536) (h1 : ld.length ≤ 300) (h2 : sr.length ≤ 300) (j : Nat) : ((L.take j).flatMap (vj S ld sr)).length ≤ 39321600 := by
  rw [vj_len]
  have : (L.take j).length ≤ 65536 := by simp; omega
  calc (L.take j).length * (ld.length + sr.length) ≤ 65536 * 600 := Nat.mul_le_mul this (by omega)
    _ ≤ 39321600 := by omega
theorem vj_lt {S : Syst} {node : Nat} {st : St} (ok : VisOk S node st) {ld sr : List C} (h1 : ld = st.ld node) (h2 : sr = st.sr node) {L : List Nat} (hL : ∀ y, st.f node y = true ↔ y ∈ L) : ∀ e ∈ L.flatMap (vj S ld sr), e.1 < S.N ∧ e.2 < S.N := by
  subst h1 h2
  intro e he
  obtain ⟨y, hy, h⟩ := List.mem_flatMap.1 he
  have hys := ok.fb y ((hL y).2 hy)
  rcases List.mem_append.1 h with h | h
  · obtain ⟨c, hc, rfl⟩ := List.mem_map.1 h
    exact ⟨Syst.cell_lt hys (ok.ld c hc).2, (ok.ld c hc).1⟩
  · obtain ⟨c, hc, rfl⟩ := List.mem_map.1 h
    exact ⟨(ok.sr c hc).1, Syst.cell_lt hys (ok.sr c hc).2⟩
end Go.And
namespace Go.Proofs.Ytkfhopnolflchaa
open Go.RowKit Go.Dfl Go.And

section
variable {S : Syst} {w0 : World} {sv : Nat} {rl : Nat → Nat} {V : Vals} {st : St} {W : World}
theorem Mem.cpCell (h : Mem S w0 sv rl V st W) {i : Nat} (hi : i < S.N) {a : Option Addr} {c : Nat} {l : List Nat} (hl : st.cp i = l) (hv : nth V.cvs i = .slice a l.length c) : ∀ j, j < l.length → W.cell? ⟨blk a, ofs a + j, none⟩ = some (.int .i64 ((nth l j : Nat) : Int)) := by
  obtain ⟨a2, c2, h1, -, -, h4⟩ := h.cpRow hi
  rw [hv, hl] at h1
  simp only [Value.slice.injEq] at h1
  obtain ⟨rfl, -, rfl⟩ := h1
  rw [hl] at h4
  exact h4
theorem Mem.ptCell (h : Mem S w0 sv rl V st W) {i : Nat} (hi : i < S.vars) {a : Option Addr} {c : Nat} {l : List (Nat × (Nat → Bool))} (hl : st.pt i = l) (hv : nth V.pvs i = .slice a l.length c) : ∀ j, j < l.length → ∃ sa sn sc, W.cell? ⟨blk a, ofs a + j * 2, none⟩ = some (.int .i64 ((nth l j).1 : Int)) ∧ W.cell? ⟨blk a, ofs a + j * 2 + 1, none⟩ = some (.slice sa sn sc) ∧ IsS rl W (.slice sa sn sc) (nth l j).2 := by
  obtain ⟨a2, c2, h1, -, -, h4⟩ := h.ptRow hi
  rw [hv, hl] at h1
  simp only [Value.slice.injEq] at h1
  obtain ⟨rfl, -, rfl⟩ := h1
  rw [hl] at h4
  exact h4
theorem Mem.ldCell (h : Mem S w0 sv rl V st W) {i : Nat} (hi : i < S.vars) {a : Option Addr} {c : Nat} {l : List C} (hl : st.ld i = l) (hv : nth V.lvs i = .slice a l.length c) : ∀ j, j < l.length → ∃ sa sn sc, W.cell? ⟨blk a, ofs a + j * 5, none⟩ = some (.int .i64 ((nth l j).k : Int)) ∧ W.cell? ⟨blk a, ofs a + j * 5 + 1, none⟩ = some (.int .i64 ((nth l j).a : Int)) ∧ W.cell? ⟨blk a, ofs a + j * 5 + 2, none⟩ = some (.int .i64 ((nth l j).b : Int)) ∧ W.cell? ⟨blk a, ofs a + j * 5 + 3, none⟩ = some (.int .i64 ((nth l j).f : Int)) ∧ W.cell? ⟨blk a, ofs a + j * 5 + 4, none⟩ = some (.slice sa sn sc) := by
  obtain ⟨a2, c2, h1, -, -, h4⟩ := h.ldRow hi
  rw [hv, hl] at h1
  simp only [Value.slice.injEq] at h1
  obtain ⟨rfl, -, rfl⟩ := h1
  rw [hl] at h4
  exact h4
theorem Mem.srCell (h : Mem S w0 sv rl V st W) {i : Nat} (hi : i < S.vars) {a : Option Addr} {c : Nat} {l : List C} (hl : st.sr i = l) (hv : nth V.svs i = .slice a l.length c) : ∀ j, j < l.length → ∃ sa sn sc, W.cell? ⟨blk a, ofs a + j * 5, none⟩ = some (.int .i64 ((nth l j).k : Int)) ∧ W.cell? ⟨blk a, ofs a + j * 5 + 1, none⟩ = some (.int .i64 ((nth l j).a : Int)) ∧ W.cell? ⟨blk a, ofs a + j * 5 + 2, none⟩ = some (.int .i64 ((nth l j).b : Int)) ∧ W.cell? ⟨blk a, ofs a + j * 5 + 3, none⟩ = some (.int .i64 ((nth l j).f : Int)) ∧ W.cell? ⟨blk a, ofs a + j * 5 + 4, none⟩ = some (.slice sa sn sc) := by
  obtain ⟨a2, c2, h1, -, -, h4⟩ := h.srRow hi
  rw [hv, hl] at h1
  simp only [Value.slice.injEq] at h1
  obtain ⟨rfl, -, rfl⟩ := h1
  rw [hl] at h4
  exact h4

theorem Mem.freshBlk {a : Option Addr} {n c : Nat} (h : Mem S w0 sv rl V st W) (ha : V.fresh = .slice a n c) {i : Nat} (hi : i < S.N) : rl (blk a) = 3 := by
  have hS := h.fresh (by omega)
  rw [ha] at hS
  exact hS.role _ (own_blk hS.own (i := i) (by rw [hS.len]; exact hi))
theorem Mem.qBlk2 {a : Option Addr} {n c : Nat} (h : Mem S w0 sv rl V st W) (ha : V.q = .slice a n c) {i : Nat} (hi : i < S.N) : rl (blk a) = 8 := by
  have hS := h.q (by omega)
  rw [ha] at hS
  exact hS.role _ (ownB_blk hS.own (i := i) (by rw [hS.len]; exact hi))
theorem Mem.cpBlk {a : Option Addr} {n c : Nat} (h : Mem S w0 sv rl V st W) (ha : V.cp = .slice a n c) {i : Nat} (hi : i < S.N) : rl (blk a) = 4 := by
  have hS := h.cp (by omega)
  rw [ha] at hS
  exact hS.role _ (.inl (own_blk hS.own.out (i := i) (by rw [hS.own.len, hS.len]; exact hi)))
end

theorem ne_of_roles {rl : Nat → Nat} {a b x y : Nat} (ha : rl a = x) (hb : rl b = y) (h : x ≠ y) : a ≠ b := fun e => h (by rw [← ha, ← hb, e])

set_option maxHeartbeats 12800000 in
set_option maxRecDepth 100000 in
theorem visit_any {S : Syst} {w0 : World} {sv : Nat} {rl : Nat → Nat} {V : Vals} {st : St} {W : World} (h : Mem S w0 sv rl V st W) (node : Nat) (hn : node < S.N) (hN : S.N ≤ 1000000) (hF : S.fields ≤ 1000000) (hV : S.vars ≤ 1000000) (hSi : S.sites ≤ 1000000) (ok : VisOk S node st) :
    Calls Try.prog 44 #[.pointer (some ⟨sv, 0, none⟩), .int .i64 node] W
      (DoesP (fun x y => ∃ L : List Nat, L.Pairwise (· < ·) ∧ (∀ z, x.f node z = true ↔ z ∈ L) ∧ Visit S node L x y) S w0 sv rl st W) := by
  obtain ⟨fa, fc, hfa⟩ := h.freshV
  obtain ⟨qa, qc, hqa⟩ := h.qV
  obtain ⟨ca, cc, hca⟩ := h.cpV
  have i1 := h.freshIx hfa hn
  have i2 := h.qIx hqa hn
  have i3 := h.cpIx hca hn
  obtain ⟨c5, cF, fF⟩ := h.freshAt hfa hn
  obtain ⟨c10, cQ, fQ⟩ := h.qAt hqa hn
  obtain ⟨c6, cC, -⟩ := h.cpAt hca hn
  obtain ⟨ra, rc, hra, hrl, hri, -⟩ := h.cpRow hn
  rw [hra] at cC
  have hset := (h.fresh (by omega)).mean node hn
  obtain ⟨sa, sn, sc, hs⟩ := hset.slice
  rw [hs] at cF hset
  have n1 : sv ≠ blk fa := ne_of_roles h.rbox (h.freshBlk hfa hn) (by omega)
  have n2 : sv ≠ blk qa := ne_of_roles h.rbox (h.qBlk2 hqa hn) (by omega)
  have n3 : blk fa ≠ blk qa := ne_of_roles (h.freshBlk hfa hn) (h.qBlk2 hqa hn) (by omega)
  have n4 : blk ca ≠ blk fa := ne_of_roles (h.cpBlk hca hn) (h.freshBlk hfa hn) (by omega)
  have n5 : blk ca ≠ blk qa := ne_of_roles (h.cpBlk hca hn) (h.qBlk2 hqa hn) (by omega)
  have n1' := Ne.symm n1
  have n2' := Ne.symm n2
  have n3' := Ne.symm n3
  have n4' := Ne.symm n4
  have n5' := Ne.symm n5
  have m1 := h.setFresh hfa hn (IsS.nil rl W)
  have m2 := m1.1.setQ hqa hn false
  have hext := m1.2.trans m2.2
  have HM := Lib.hid (And.intro m2.1 (And.intro hext (And.intro (hset.ex hext) hra)))
  have HO := Lib.hid ok
  clear m1 m2 hext hset hs hra hfa hqa hca ok h
  go_enter Try.func44, Try.ntmps44
  go_wp2_with fail
  refine wp_gen (fun Z => ∃ V1 st1, st1 = { st with f := upd st.f node (fun _ => false), q := upd st.q node false } ∧ Mem S w0 sv rl V1 st1 Z ∧ Ext rl rl W Z ∧ IsS rl Z (.slice sa sn sc) (st.f node) ∧ nth V1.cvs node = .slice ra (st.cp node).length rc) ⟨_, _, rfl, HM.out⟩ ?_
  rintro W1 ⟨V1, st1, hst1, hM1, hE1, hs1, hr1⟩
  have hmid1 : Mid S st1 st1 0 := Mid.refl (by rw [hst1]; exact HO.out.bnd)
  have hcp1 : st1.cp = st.cp := by rw [hst1]
  have hpt1 : st1.pt = st.pt := by rw [hst1]
  have hld1 : st1.ld = st.ld := by rw [hst1]
  have hsr1 : st1.sr = st.sr := by rw [hst1]
  have htd1 : st1.todo.length ≤ 500000 := by rw [hst1]; exact HO.out.todo
  have H1 := Lib.hid (And.intro hM1 (And.intro hE1 (And.intro hs1 (And.intro hr1 (And.intro hst1 (And.intro hmid1 (And.intro hcp1 (And.intro hpt1 (And.intro hld1 (And.intro hsr1 htd1))))))))))
  obtain ⟨cpn, hcpn⟩ : ∃ cpn, cpn = st.cp node := ⟨_, rfl⟩
  rw [← hcpn] at hri hrl ⊢
  have HC := Lib.hid (And.intro hcpn trivial)
  clear HM hM1 hE1 hs1 hr1 hst1 hmid1 hcp1 hpt1 hld1 hsr1 htd1 c5 cF fF c10 cQ fQ c6 cC n1 n2 n3 n4 n5 n1' n2' n3' n4' n5' i1 i2 i3 hcpn
  go_loopw [6, 42] (fun _ x wr => ∃ (j : Nat) (rl2 : Nat → Nat) (V2 : Vals) (st2 : St), j ≤ cpn.length ∧ x = .int .i64 j ∧ Hid (Mem S w0 sv rl2 V2 st2 wr ∧ Ext rl rl2 W1 wr ∧ KP V1 V2 ∧ Puts ((cpn.take j).map fun t => (t, st.f node)) st1 st2)) (fun _ x _ => cpn.length - (intOf x).toNat)
  case atStart => exact ⟨0, rl, V1, st1, by omega, rfl, H1.out.1, Ext.refl _ _, KP.refl _, rfl⟩
  case round =>
    obtain ⟨j, rl2, V2, st2, hj, rfl, hh⟩ := hrel
    by_cases hlt : j < cpn.length
    · have hcl : wr.cell? ⟨blk ra, ofs ra + j, none⟩ = some (.int .i64 ((nth cpn j : Nat) : Int)) := by
        refine hh.out.1.cpCell hn (l := cpn) (c := rc) ?_ ?_ j hlt
        · rw [hh.out.2.2.2.len, H1.out.2.2.2.2.2.2.1, HC.out.1]
        · rw [hh.out.2.2.1.1, HC.out.1]; exact H1.out.2.2.2.1
      have hpl : ∀ e ∈ (cpn.take j).map (fun t => (t, st.f node)), e.1 < S.N ∧ ∀ x, e.2 x = true → x < S.sites := by
        intro e he
        obtain ⟨t, ht, rfl⟩ := List.mem_map.1 he
        exact ⟨HO.out.cp t (by rw [← HC.out.1]; exact List.mem_of_mem_take ht), HO.out.fb⟩
      have htN : nth cpn j < S.N := HO.out.cp _ (by rw [← HC.out.1]; exact nth_mem _ _ hlt)
      have htd2 := (H1.out.2.2.2.2.2.1.puts hh.out.2.2.2 hpl).todoLe H1.out.2.2.2.2.2.2.2.2.2.2 HO.out.ns
      have hyt : (cpn.take (j + 1)).map (fun t => (t, st.f node)) = (cpn.take j).map (fun t => (t, st.f node)) ++ [(nth cpn j, st.f node)] := by rw [take_snoc _ _ hlt]; simp
      have HY := Lib.hid (And.intro hyt (And.intro htN htd2))
      clear hyt hpl htN htd2
      generalize nth cpn j = y at *
      go_wp2_with fail
      refine (put_anyV hh.out.1 y HY.out.2.1 hN HY.out.2.2 (H1.out.2.2.1.ex hh.out.2.1)).mono ?_
      rintro e W8 ⟨v8, rl8, V8, st8, rfl, hp, m8, e8, k8⟩
      have H8 := Lib.hid (And.intro m8 (And.intro (hh.out.2.1.trans e8) (And.intro (hh.out.2.2.1.trans k8) (Puts.snoc (e := (y, st.f node)) hh.out.2.2.2 hp))))
      clear hp m8 e8 k8
      go_wp2_with fail
      go_roundw
      case rel => exact ⟨j + 1, rl8, V8, st8, by omega, by go_num, H8.out.1, H8.out.2.1, H8.out.2.2.1, by
        have h9 := H8.out.2.2.2
        rw [HY.out.1]; exact h9⟩
      case measure => simp [intOf]; omega
    · obtain rfl : j = cpn.length := by omega
      have hp1 := hh.out.2.2.2
      rw [List.take_length] at hp1
      have hmid := H1.out.2.2.2.2.2.1.puts hp1 fun e he => by
        obtain ⟨t, ht, rfl⟩ := List.mem_map.1 he
        exact ⟨HO.out.cp t (by rw [← HC.out.1]; exact ht), HO.out.fb⟩
      have hs2 := H1.out.2.2.1.ex hh.out.2.1
      obtain ⟨L0, hL0⟩ := hs2.list
      have hPL0 := hL0.1
      replace hL0 := hL0.2
      have HPL0 := Lib.hid hPL0
      clear hPL0
      have H2 := Lib.hid (And.intro hh.out.1 (And.intro (H1.out.2.1.trans hh.out.2.1) (And.intro hs2 (And.intro hp1 hmid))))
      have HL0 := Lib.hid hL0
      have b0 := (hh.out.1.fld 0 (v := .int .i64 (S.vars : Int)) rfl).1
      clear hh hp1 hmid hs2 hj hlt hri hrl hL0
      by_cases hv : node < S.vars
      · obtain ⟨pa, pc, hpa⟩ := H2.out.1.ptV
        have i4 := H2.out.1.ptIx hpa hv
        obtain ⟨c7, cP, -⟩ := H2.out.1.ptAt hpa hv
        obtain ⟨qa2, qc2, hqa2, hql, hqi, -⟩ := H2.out.1.ptRow hv
        have hpte : st2.pt node = st.pt node := by rw [H2.out.2.2.2.2.pt, H1.out.2.2.2.2.2.2.2.1]
        rw [hpte] at hqa2 hql hqi
        rw [hqa2] at cP
        obtain ⟨ptn, hptn⟩ : ∃ ptn, ptn = st.pt node := ⟨_, rfl⟩
        rw [← hptn] at hqa2 hql hqi cP hpte
        have HP := Lib.hid (And.intro hptn (And.intro hqa2 hpte))
        clear hqa2 hpa hptn hpte
        have hvb : decide (S.vars ≤ node) = false := by simp; omega
        go_wp2_with fail
        clear c7 cP i4 b0
        go_loopw [8, 66] (fun _ x wr3 => ∃ (j : Nat) (rl3 : Nat → Nat) (V3 : Vals) (st3 : St), j ≤ ptn.length ∧ x = .int .i64 j ∧ Hid (Mem S w0 sv rl3 V3 st3 wr3 ∧ Ext rl2 rl3 wr wr3 ∧ KP V2 V3 ∧ Puts ((ptn.take j).map fun e => (e.1, fun x => st.f node x && e.2 x)) st2 st3)) (fun _ x _ => ptn.length - (intOf x).toNat)
        case atStart => exact ⟨0, rl2, V2, st2, by omega, rfl, H2.out.1, Ext.refl _ _, KP.refl _, rfl⟩
        case round =>
          obtain ⟨j, rl3, V3, st3, hj, rfl, hh⟩ := hrel
          by_cases hlt : j < ptn.length
          · obtain ⟨ea, en, ec, e1, e2, e3⟩ := hh.out.1.ptCell (l := ptn) (a := qa2) (c := qc2) hv (by rw [hh.out.2.2.2.le.2.2.2.1]; exact HP.out.2.2) (by rw [hh.out.2.2.1.2.1]; exact HP.out.2.1) j hlt
            have hpl : ∀ e ∈ (ptn.take j).map (fun e => (e.1, fun x => st.f node x && e.2 x)), e.1 < S.N ∧ ∀ x, e.2 x = true → x < S.sites := by
              intro e he
              obtain ⟨t, ht, rfl⟩ := List.mem_map.1 he
              exact ⟨HO.out.pt t (by rw [← HP.out.1]; exact List.mem_of_mem_take ht), fun x hx => HO.out.fb x (by simp only [Bool.and_eq_true] at hx; exact hx.1)⟩
            have htN : (nth ptn j).1 < S.N := HO.out.pt _ (by rw [← HP.out.1]; exact nth_mem _ _ hlt)
            have htd2 := (H2.out.2.2.2.2.puts hh.out.2.2.2 hpl).todoLe H1.out.2.2.2.2.2.2.2.2.2.2 HO.out.ns
            have hyt : (ptn.take (j + 1)).map (fun e => (e.1, fun x => st.f node x && e.2 x)) = (ptn.take j).map (fun e => (e.1, fun x => st.f node x && e.2 x)) ++ [((nth ptn j).1, fun x => st.f node x && (nth ptn j).2 x)] := by rw [take_snoc _ _ hlt]; simp
            have HY := Lib.hid (And.intro hyt (And.intro htN (And.intro htd2 e3)))
            clear hyt hpl htN htd2 e3
            obtain ⟨y, hy⟩ : ∃ y, y = nth ptn j := ⟨_, rfl⟩
            rw [← hy] at HY e1
            clear hy
            obtain ⟨y1, y2⟩ := y
            dsimp only at HY e1
            go_wp2_with fail
            have g9 := grownBy_alloc wr (.cells #[.int .i64 (y1 : Int), .slice ea en ec] 98)
            have d0 : (wr.alloc (.cells #[.int .i64 (y1 : Int), .slice ea en ec] 98)).cell? ⟨wr.heap.size, 0, none⟩ = some (.int .i64 (y1 : Int)) := cells_new (W := wr) (cs := [.int .i64 (y1 : Int), .slice ea en ec]) (t := 98) rfl 0 _ rfl
            have d1 : (wr.alloc (.cells #[.int .i64 (y1 : Int), .slice ea en ec] 98)).cell? ⟨wr.heap.size, 1, none⟩ = some (.slice ea en ec) := cells_new (W := wr) (cs := [.int .i64 (y1 : Int), .slice ea en ec]) (t := 98) rfl 1 _ rfl
            refine wp_gen (fun Z => Mem S w0 sv rl3 V3 st3 Z ∧ Ext rl3 rl3 wr Z ∧ Z.cell? ⟨wr.heap.size, 0, none⟩ = some (.int .i64 (y1 : Int)) ∧ Z.cell? ⟨wr.heap.size, 1, none⟩ = some (.slice ea en ec)) ⟨hh.out.1.keep g9, Ext.grown g9, d0, d1⟩ ?_
            clear g9 d0 d1 e1 e2
            rintro W9 ⟨m9, x9, d0, d1⟩
            obtain ⟨bw, hbw⟩ : ∃ bw, bw = wr.heap.size := ⟨_, rfl⟩
            rw [← hbw] at d0 d1 ⊢
            clear hbw
            have H9 := Lib.hid (And.intro m9 x9)
            clear m9 x9
            refine wp_region_mix [0, 1, 2, 3, 4, 5] [6, 7] (fun w' => w'.cell? ⟨bw, 0, none⟩ = some (.int .i64 (y1 : Int)) ∧ w'.cell? ⟨bw, 1, none⟩ = some (.slice ea en ec)) (by kernel_rfl) (by kernel_rfl) (by kernel_rfl) ⟨d0, d1⟩ ?_
            repeat (
              refine wpHeads_cons (v := ?_) rfl (Or.inl ⟨by rfl, ?_⟩) ?_
              rotate_left
              · (intro W hW; go_simp; try with_reducible rfl)
              simp only [Act.put, List.setIfInBounds_toArray])
            refine wpHeads_nil ?_
            refine wpTails_cons rfl ?_
            go_wp2_with fail
            refine (Both_S (rl := rl3) ((H2.out.2.2.1.ex hh.out.2.1).ex (H9.out.2.trans (Ext.grown (rl := rl3) (grownBy_drew0 _)))) (HY.out.2.2.2.ex (H9.out.2.trans (Ext.grown (rl := rl3) (grownBy_drew0 _)))) (fun k hk => H9.out.1.fr k (by simpa using hk))).mono ?_
            rintro e W5 ⟨a5, n5, c5, rfl, o5, q5⟩
            have g5 : W9.grownBy W5 none := grownBy_trans (grownBy_drew0 _) (grownBy_below q5)
            go_wp2_with fail
            refine tail_mk ⟨g5.cell d0 (by simp), g5.cell d1 (by simp)⟩ ?_
            refine wpTails_one rfl ?_
            have H5 := Lib.hid (And.intro (H9.out.1.keep g5) (And.intro (hh.out.2.1.trans (H9.out.2.trans (Ext.grown (rl := rl3) g5))) (And.intro hh.out.2.2 o5)))
            clear g5 q5 o5 d0 d1 hh
            go_wp2_with fail
            refine (put_anyV H5.out.1 y1 HY.out.2.1 hN HY.out.2.2.1 H5.out.2.2.2).mono ?_
            rintro e W8 ⟨v8, rl8, V8, st8, rfl, hp, m8, e8, k8⟩
            have H8 := Lib.hid (And.intro m8 (And.intro (H5.out.2.1.trans e8) (And.intro (H5.out.2.2.1.1.trans k8) (Puts.snoc (e := (y1, fun x => st.f node x && y2 x)) H5.out.2.2.1.2 hp))))
            clear hp m8 e8 k8
            go_wp2_with fail
            refine thenQ_mk ?_
            go_wp2_with fail
            go_roundw
            case rel => exact ⟨j + 1, rl8, V8, st8, by omega, by go_num, H8.out.1, H8.out.2.1, H8.out.2.2.1, by
              have h9 := H8.out.2.2.2
              rw [HY.out.1]; exact h9⟩
            case measure => simp [intOf]; omega
          · obtain rfl : j = ptn.length := by omega
            have hp2 := hh.out.2.2.2
            rw [List.take_length] at hp2
            have hmid2 := H2.out.2.2.2.2.puts hp2 fun e he => by
              obtain ⟨t, ht, rfl⟩ := List.mem_map.1 he
              exact ⟨HO.out.pt t (by rw [← HP.out.1]; exact ht), fun x hx => HO.out.fb x (by simp only [Bool.and_eq_true] at hx; exact hx.1)⟩
            have hs3 := H2.out.2.2.1.ex hh.out.2.1
            have H3 := Lib.hid (And.intro hh.out.1 (And.intro (H2.out.2.1.trans hh.out.2.1) (And.intro hs3 (And.intro hp2 hmid2))))
            obtain ⟨la, lc, hla⟩ := H3.out.1.ldV
            have i5 := H3.out.1.ldIx hla hv
            obtain ⟨c8, cL, -⟩ := H3.out.1.ldAt hla hv
            obtain ⟨lra, lrc, hlra, hlrl, hlri, -⟩ := H3.out.1.ldRow hv
            obtain ⟨ta, tc, hta⟩ := H3.out.1.srV
            have i6 := H3.out.1.srIx hta hv
            obtain ⟨c9, cT, -⟩ := H3.out.1.srAt hta hv
            obtain ⟨tra, trc, htra, htrl, htri, -⟩ := H3.out.1.srRow hv
            have hlde : st3.ld node = st.ld node := by rw [hmid2.ld, H1.out.2.2.2.2.2.2.2.2.1]
            have hsre : st3.sr node = st.sr node := by rw [hmid2.sr, H1.out.2.2.2.2.2.2.2.2.2.1]
            rw [hlde] at hlra hlrl hlri
            rw [hsre] at htra htrl htri
            rw [hlra] at cL
            rw [htra] at cT
            obtain ⟨ldn, hldn⟩ : ∃ ldn, ldn = st.ld node := ⟨_, rfl⟩
            obtain ⟨srn, hsrn⟩ : ∃ srn, srn = st.sr node := ⟨_, rfl⟩
            rw [← hldn] at hlra hlrl hlri cL hlde
            rw [← hsrn] at htra htrl htri cT hsre
            have HQ := Lib.hid (And.intro hldn (And.intro hsrn (And.intro hlra (And.intro htra (And.intro hlde hsre)))))
            clear hlra htra hla hta hldn hsrn hlde hsre hp2 hmid2 hs3 hh hj hlt hqi hql
            have hEnd : ∀ {L : List Nat} {b : St}, L.Pairwise (· < ·) → (∀ y, st.f node y = true ↔ y ∈ L) → Joins (L.flatMap (vj S ldn srn)) st3 b → ∃ L : List Nat, L.Pairwise (· < ·) ∧ (∀ z, st.f node z = true ↔ z ∈ L) ∧ Visit S node L st b := fun {L b} hPw hL hJ => by
              refine ⟨L, hPw, hL, st2, by have := H2.out.2.2.2.1; rw [HC.out.1, H1.out.2.2.2.2.1] at this; exact this, .inr ⟨hv, st3, by have := H3.out.2.2.2.1; rw [HP.out.1] at this; exact this, ?_⟩⟩
              have e : (vj S ldn srn) = fun y => ((st.ld node).map fun c => (S.cell y c.f, c.b)) ++ ((st.sr node).map fun c => (c.a, S.cell y c.f)) := by
                funext y; rw [vj, HQ.out.1, HQ.out.2.1]
              rw [e] at hJ
              exact hJ
            have HE := Lib.hid (And.intro @hEnd trivial)
            clear hEnd
            by_cases hemp : ldn.length = 0 ∧ srn.length = 0
            · obtain ⟨z1, z2⟩ := hemp
              rw [z1] at cL
              rw [z2] at cT
              go_wp2_with fail
              go_end0
              refine ⟨_, rl3, V3, st3, rfl, HE.out.1 HPL0.out HL0.out ?_, H3.out.1, H3.out.2.1⟩
              have e1 : ldn = [] := List.length_eq_zero_iff.1 z1
              have e2 : srn = [] := List.length_eq_zero_iff.1 z2
              rw [e1, e2]
              have : L0.flatMap (vj S [] []) = [] := by simp [vj]
              rw [this]; rfl
            · have hor : ldn.length ≠ 0 ∨ (ldn.length = 0 ∧ srn.length ≠ 0) := by omega
              clear hemp
              obtain ⟨nl, hnl⟩ : ∃ nl, nl = ldn.length := ⟨_, rfl⟩
              obtain ⟨ns, hns⟩ : ∃ ns, ns = srn.length := ⟨_, rfl⟩
              rw [← hnl] at cL hlri hlrl hor
              rw [← hns] at cT htri htrl hor
              have HN := Lib.hid (And.intro hnl hns)
              clear hnl hns
              rcases hor with hb1 | ⟨hb1, hb2⟩
              · have hb1' : ((nl : Int) == 0) = false := by simp [hb1]
                clear hb1
                go_wp2_with fail
                refine (List_S H3.out.2.2.1).mono ?_
                rintro e W5 ⟨a5, c5, L, rfl, o5, mL, pL, lL, q5⟩
                have HPL := Lib.hid pL
                clear pL
                have g5 := grownBy_below q5
                have hr5 : ∀ k, (Value.slice a5 L.length c5).ownBlock = some k → rl3 k = 0 := fun k hk => H3.out.1.fr k (o5.lt k hk).1
                have H5 := Lib.hid (And.intro (H3.out.1.keep g5) (And.intro (H3.out.2.1.trans (Ext.grown (rl := rl3) g5)) (And.intro o5.lst hr5)))
                have HL := Lib.hid (And.intro mL (And.intro lL (vj_lt HO.out HQ.out.1 HQ.out.2.1 mL)))
                have hix : ∀ (x : Int), 0 ≤ x → x < L.length → ∀ Z, (Instr.indexAt 27 (.slice a5 L.length c5) (.int .i64 x)).run Try.prog Z = .ok (.pointer (some ⟨blk a5, ofs a5 + x.toNat, none⟩)) Z := by
                  obtain ⟨a6, c6, he6, -, hidx6, -⟩ := o5.lst.out1 sInt
                  simp only [Value.slice.injEq] at he6
                  obtain ⟨rfl, he6, rfl⟩ := he6
                  intro x h0 h1
                  have := hidx6 .i64 x h0 (by rw [← he6]; exact h1)
                  rw [← he6] at this; exact this
                clear hr5 o5 mL q5 g5 c8 cL c9 cT
                go_wp2_with fail
                go_loopw [10, 102] (fun _ x wr4 => ∃ (j : Nat) (rl4 : Nat → Nat) (V4 : Vals) (st4 : St), j ≤ L.length ∧ x = .int .i64 j ∧ Hid (Mem S w0 sv rl4 V4 st4 wr4 ∧ Ext rl3 rl4 W5 wr4 ∧ KJ V3 V4 ∧ Joins ((L.take j).flatMap (vj S ldn srn)) st3 st4)) (fun _ x _ => L.length - (intOf x).toNat)
                case atStart => exact ⟨0, rl3, V3, st3, by omega, rfl, H5.out.1, Ext.refl _ _, KJ.refl _, rfl⟩
                case round =>
                  obtain ⟨j, rl4, V4, st4, hj, rfl, hh⟩ := hrel
                  by_cases hlt : j < L.length
                  · have hys : nth L j < S.sites := HO.out.fb _ ((HL.out.1 _).2 (nth_mem L j hlt))
                    have hlst := lst_ext H5.out.2.2.1 hh.out.2.1 (fun _ k hk => .inl (H5.out.2.2.2 k hk))
                    have hcl : wr.cell? ⟨blk a5, ofs a5 + j, none⟩ = some (.int .i64 ((nth L j : Nat) : Int)) := by
                      obtain ⟨a6, c6, he6, -, -, hcell6, -⟩ := hlst.out1 sInt
                      simp only [Value.slice.injEq] at he6
                      obtain ⟨rfl, -, rfl⟩ := he6
                      have := hcell6 j (by simpa using hlt)
                      rw [this]; simp [nth, hlt]
                    have hld4 : st4.ld node = ldn := by rw [hh.out.2.2.2.le.2.2.2.2.1]; exact HQ.out.2.2.2.2.1
                    have hsr4 : st4.sr node = srn := by rw [hh.out.2.2.2.le.2.2.2.2.2]; exact HQ.out.2.2.2.2.2
                    have hlv4 : nth V4.lvs node = .slice lra ldn.length lrc := by rw [hh.out.2.2.1.2.1]; exact HQ.out.2.2.1
                    have hsv4 : nth V4.svs node = .slice tra srn.length trc := by rw [hh.out.2.2.1.2.2]; exact HQ.out.2.2.2.1
                    have hsv4' := hsv4
                    obtain ⟨la4, lc4, hla4⟩ := hh.out.1.ldV
                    have i7 := hh.out.1.ldIx hla4 hv
                    obtain ⟨c8, cL, -⟩ := hh.out.1.ldAt hla4 hv
                    rw [hlv4, ← HN.out.1] at cL
                    have HY := Lib.hid (And.intro hys (And.intro hlt (And.intro hld4 (And.intro hsr4 (And.intro hlv4 hsv4)))))
                    have H4 := hh
                    clear hys hlst hld4 hsr4 hlv4 hsv4 hsv4' hla4 hh
                    obtain ⟨y, hy⟩ : ∃ y, y = nth L j := ⟨_, rfl⟩
                    rw [← hy] at hcl HY
                    have HYy := Lib.hid (And.intro hy trivial)
                    clear hy
                    go_wp2_with fail
                    clear c8 cL i7 hcl
                    go_loopw [12, 114] (fun _ x wr5 => ∃ (i : Nat) (rl5 : Nat → Nat) (V5 : Vals) (st5 : St), i ≤ nl ∧ x = .int .i64 i ∧ Hid (Mem S w0 sv rl5 V5 st5 wr5 ∧ Ext rl3 rl5 W5 wr5 ∧ KJ V4 V5 ∧ Joins ((L.take j).flatMap (vj S ldn srn) ++ (ldn.take i).map fun c => (S.cell y c.f, c.b)) st3 st5)) (fun _ x _ => nl - (intOf x).toNat)
                    case atStart => exact ⟨0, rl4, V4, st4, by omega, rfl, H4.out.1, H4.out.2.1, KJ.refl _, by simpa using H4.out.2.2.2⟩
                    case round =>
                      obtain ⟨i, rl5, V5, st5, hi, rfl, hh⟩ := hrel
                      by_cases hlt2 : i < nl
                      · have hil : i < ldn.length := by rw [← HN.out.1]; exact hlt2
                        obtain ⟨za, zn, zc, e0, e1, e2, e3, e4⟩ := hh.out.1.ldCell (l := ldn) (a := lra) (c := lrc) hv (by rw [hh.out.2.2.2.le.2.2.2.2.1]; exact HQ.out.2.2.2.2.1) (by rw [hh.out.2.2.1.2.1]; exact HY.out.2.2.2.2.1) i hil
                        have hmid5 := H3.out.2.2.2.2.joins hh.out.2.2.2 fun e he => (HL.out.2.2 e (vj_sub1 HY.out.2.1 (by rw [← HYy.out.1]; exact he))).2
                        have htd5 := hmid5.todoLe H1.out.2.2.2.2.2.2.2.2.2.2 HO.out.ns
                        have hln := vj_small (S := S) (ld := ldn) (sr := srn) HL.out.2.1 (by rw [HQ.out.1]; exact HO.out.ldl) (by rw [HQ.out.2.1]; exact HO.out.srl) j
                        have hcp5 : (st5.cp (S.cell y (nth ldn i).f)).length ≤ 100000000 := by
                          have q1 := hmid5.cp (S.cell y (nth ldn i).f)
                          have q2 := HO.out.cpl (S.cell y (nth ldn i).f)
                          have q3 : ldn.length ≤ 300 := by rw [HQ.out.1]; exact HO.out.ldl
                          rw [H1.out.2.2.2.2.2.2.1] at q1
                          simp only [List.length_append, List.length_map, List.length_take] at q1
                          omega
                        have hok := HO.out.ld (nth ldn i) (by rw [← HQ.out.1]; exact nth_mem _ _ hil)
                        have hcN := Syst.cell_lt HY.out.1 hok.2
                        have hyt : (ldn.take (i + 1)).map (fun c => (S.cell y c.f, c.b)) = (ldn.take i).map (fun c => (S.cell y c.f, c.b)) ++ [(S.cell y (nth ldn i).f, (nth ldn i).b)] := by rw [take_snoc _ _ hil]; simp
                        have HK := Lib.hid (And.intro htd5 (And.intro hcp5 (And.intro hcN (And.intro hok.1 (And.intro hyt hok.2)))))
                        clear hmid5 htd5 hln hcp5 hcN hyt hil hok
                        generalize nth ldn i = cc5 at *
                        go_wp2_with fail
                        have g9 := grownBy_alloc wr (.cells #[.int .i64 (cc5.k : Int), .int .i64 cc5.a, .int .i64 cc5.b, .int .i64 cc5.f, .slice za zn zc] 37)
                        refine wp_gen (fun Z => Mem S w0 sv rl5 V5 st5 Z ∧ Ext rl5 rl5 wr Z ∧ BoxC Z wr.heap.size cc5.k cc5.a cc5.b cc5.f (.slice za zn zc)) ⟨hh.out.1.keep g9, Ext.grown g9, BoxC.new _ _ _ _ _ _ _⟩ ?_
                        clear g9 e0 e1 e2 e3 e4
                        rintro W9 ⟨m9, x9, d0, d1, d2, d3, d4⟩
                        obtain ⟨bw, hbw⟩ : ∃ bw, bw = wr.heap.size := ⟨_, rfl⟩
                        rw [← hbw] at d0 d1 d2 d3 d4 ⊢
                        clear hbw
                        have b0 := (m9.fld 0 (v := .int .i64 (S.vars : Int)) rfl).1
                        have b1 := (m9.fld 1 (v := .int .i64 (S.sites : Int)) rfl).1
                        have b2 := (m9.fld 2 (v := .int .i64 (S.fields : Int)) rfl).1
                        have b3 := (m9.fld 3 (v := V5.cons) rfl).1
                        have H9 := Lib.hid (And.intro m9 x9)
                        clear m9 x9 d0 d4
                        refine wp_region_mix [0, 1, 2, 3, 4, 5, 6, 7, 9, 10] [8, 11] (fun w' => w'.cell? ⟨sv, 0, none⟩ = some (.int .i64 (S.vars : Int)) ∧ w'.cell? ⟨sv, 1, none⟩ = some (.int .i64 (S.sites : Int)) ∧ w'.cell? ⟨sv, 2, none⟩ = some (.int .i64 (S.fields : Int)) ∧ w'.cell? ⟨sv, 3, none⟩ = some V5.cons ∧ w'.cell? ⟨bw, 1, none⟩ = some (.int .i64 (cc5.a : Int)) ∧ w'.cell? ⟨bw, 2, none⟩ = some (.int .i64 (cc5.b : Int)) ∧ w'.cell? ⟨bw, 3, none⟩ = some (.int .i64 (cc5.f : Int))) (by kernel_rfl) (by kernel_rfl) (by kernel_rfl) ⟨b0, b1, b2, b3, d1, d2, d3⟩ ?_
                        repeat (
                          refine wpHeads_cons (v := ?_) rfl (Or.inl ⟨by rfl, ?_⟩) ?_
                          rotate_left
                          · (intro W hW; go_simp; try with_reducible rfl)
                          simp only [Act.put, List.setIfInBounds_toArray])
                        refine wpHeads_nil ?_
                        refine wpTails_cons rfl ?_
                        go_wp2_with fail
                        obtain ⟨nn, hnn, hcl7⟩ := cell_is S y cc5.f V5.cons (W9.drew) hV hF (by have := HY.out.1; omega) (by have := HK.out.2.2.2.2.2; omega)
                        refine hcl7.mono ?_
                        rintro e W7 ⟨rfl, q7⟩
                        have g7 : W9.grownBy W7 none := grownBy_trans (grownBy_drew0 _) (grownBy_below q7)
                        go_wp2_with fail
                        refine tail_mk ⟨g7.cell b0 (by simp), g7.cell b1 (by simp), g7.cell b2 (by simp), g7.cell b3 (by simp), g7.cell d1 (by simp), g7.cell d2 (by simp), g7.cell d3 (by simp)⟩ ?_
                        refine wpTails_one rfl ?_
                        have HM7 := Lib.hid (And.intro (H9.out.1.keep g7) (And.intro (hh.out.2.1.trans (H9.out.2.trans (Ext.grown (rl := rl5) g7))) hh.out.2.2))
                        clear g7 q7 b0 b1 b2 b3 d1 d2 d3 hh
                        subst hnn
                        clear hcl7
                        go_wp2_with fail
                        refine (join_anyV HM7.out.1 (S.cell y cc5.f) (cc5.b) HK.out.2.2.1 HK.out.2.2.2.1 hN HK.out.1 HK.out.2.1).mono ?_
                        rintro e W8 ⟨v8, rl8, V8, st8, rfl, hp, m8, e8, k8⟩
                        have H8 := Lib.hid (And.intro m8 (And.intro (HM7.out.2.1.trans e8) (And.intro (HM7.out.2.2.1.trans k8) (Joins.snoc (e := (S.cell y cc5.f, cc5.b)) HM7.out.2.2.2 hp))))
                        clear hp m8 e8 k8
                        go_wp2_with fail
                        refine thenQ_mk ?_
                        go_wp2_with fail
                        go_roundw
                        case rel => exact ⟨i + 1, rl8, V8, st8, by omega, by go_num, H8.out.1, H8.out.2.1, H8.out.2.2.1, by
                          have h9 := H8.out.2.2.2
                          rw [HK.out.2.2.2.2.1, ← List.append_assoc]; exact h9⟩
                        case measure => simp [intOf]; omega
                      · obtain rfl : i = nl := by omega
                        have hJ4 := hh.out.2.2.2
                        rw [HN.out.1, List.take_length] at hJ4
                        have hsv5 : nth V5.svs node = .slice tra srn.length trc := by rw [hh.out.2.2.1.2.2]; exact HY.out.2.2.2.2.2
                        obtain ⟨ta5, tc5, hta5⟩ := hh.out.1.srV
                        have i8 := hh.out.1.srIx hta5 hv
                        obtain ⟨c9, cT, -⟩ := hh.out.1.srAt hta5 hv
                        rw [hsv5, ← HN.out.2] at cT
                        have H6 := Lib.hid (And.intro hh.out.1 (And.intro hh.out.2.1 (And.intro (H4.out.2.2.1.trans hh.out.2.2.1) (And.intro hJ4 hsv5))))
                        clear hh hJ4 hsv5 hta5 hi hlt2
                        go_wp2_with fail
                        clear c9 cT i8
                        go_loopw [14, 139] (fun _ x wr6 => ∃ (i : Nat) (rl6 : Nat → Nat) (V6 : Vals) (st6 : St), i ≤ ns ∧ x = .int .i64 i ∧ Hid (Mem S w0 sv rl6 V6 st6 wr6 ∧ Ext rl3 rl6 W5 wr6 ∧ KJ V5 V6 ∧ Joins (((L.take j).flatMap (vj S ldn srn) ++ ldn.map fun c => (S.cell y c.f, c.b)) ++ (srn.take i).map fun c => (c.a, S.cell y c.f)) st3 st6)) (fun _ x _ => ns - (intOf x).toNat)
                        case atStart => exact ⟨0, rl5, V5, st5, by omega, rfl, H6.out.1, H6.out.2.1, KJ.refl _, by simpa using H6.out.2.2.2.1⟩
                        case round =>
                          obtain ⟨i, rl6, V6, st6, hi, rfl, hh⟩ := hrel
                          by_cases hlt2 : i < ns
                          · have hil : i < srn.length := by rw [← HN.out.2]; exact hlt2
                            obtain ⟨za, zn, zc, e0, e1, e2, e3, e4⟩ := hh.out.1.srCell (l := srn) (a := tra) (c := trc) hv (by rw [hh.out.2.2.2.le.2.2.2.2.2]; exact HQ.out.2.2.2.2.2) (by rw [hh.out.2.2.1.2.2]; exact H6.out.2.2.2.2) i hil
                            have hmid5 := H3.out.2.2.2.2.joins hh.out.2.2.2 fun e he => (HL.out.2.2 e (vj_sub2 HY.out.2.1 (by rw [← HYy.out.1]; exact he))).2
                            have htd5 := hmid5.todoLe H1.out.2.2.2.2.2.2.2.2.2.2 HO.out.ns
                            have hln := vj_small (S := S) (ld := ldn) (sr := srn) HL.out.2.1 (by rw [HQ.out.1]; exact HO.out.ldl) (by rw [HQ.out.2.1]; exact HO.out.srl) j
                            have hcp5 : (st6.cp (nth srn i).a).length ≤ 100000000 := by
                              have q1 := hmid5.cp (nth srn i).a
                              have q2 := HO.out.cpl (nth srn i).a
                              have q3 : ldn.length ≤ 300 := by rw [HQ.out.1]; exact HO.out.ldl
                              have q4 : srn.length ≤ 300 := by rw [HQ.out.2.1]; exact HO.out.srl
                              rw [H1.out.2.2.2.2.2.2.1] at q1
                              simp only [List.length_append, List.length_map, List.length_take] at q1
                              omega
                            have hok := HO.out.sr (nth srn i) (by rw [← HQ.out.2.1]; exact nth_mem _ _ hil)
                            have hcN := Syst.cell_lt HY.out.1 hok.2
                            have hyt : (srn.take (i + 1)).map (fun c => (c.a, S.cell y c.f)) = (srn.take i).map (fun c => (c.a, S.cell y c.f)) ++ [((nth srn i).a, S.cell y (nth srn i).f)] := by rw [take_snoc _ _ hil]; simp
                            have HK := Lib.hid (And.intro htd5 (And.intro hcp5 (And.intro hcN (And.intro hok.1 (And.intro hyt hok.2)))))
                            clear hmid5 htd5 hln hcp5 hcN hyt hil hok
                            generalize nth srn i = cc5 at *
                            go_wp2_with fail
                            have g9 := grownBy_alloc wr (.cells #[.int .i64 (cc5.k : Int), .int .i64 cc5.a, .int .i64 cc5.b, .int .i64 cc5.f, .slice za zn zc] 37)
                            refine wp_gen (fun Z => Mem S w0 sv rl6 V6 st6 Z ∧ Ext rl6 rl6 wr Z ∧ BoxC Z wr.heap.size cc5.k cc5.a cc5.b cc5.f (.slice za zn zc)) ⟨hh.out.1.keep g9, Ext.grown g9, BoxC.new _ _ _ _ _ _ _⟩ ?_
                            clear g9 e0 e1 e2 e3 e4
                            rintro W9 ⟨m9, x9, d0, d1, d2, d3, d4⟩
                            obtain ⟨bw, hbw⟩ : ∃ bw, bw = wr.heap.size := ⟨_, rfl⟩
                            rw [← hbw] at d0 d1 d2 d3 d4 ⊢
                            clear hbw
                            have b0 := (m9.fld 0 (v := .int .i64 (S.vars : Int)) rfl).1
                            have b1 := (m9.fld 1 (v := .int .i64 (S.sites : Int)) rfl).1
                            have b2 := (m9.fld 2 (v := .int .i64 (S.fields : Int)) rfl).1
                            have b3 := (m9.fld 3 (v := V6.cons) rfl).1
                            have H9 := Lib.hid (And.intro m9 x9)
                            clear m9 x9 d0 d4
                            refine wp_region_mix [0, 1, 2, 3, 4, 5, 6, 7, 8, 9] [10, 11] (fun w' => w'.cell? ⟨sv, 0, none⟩ = some (.int .i64 (S.vars : Int)) ∧ w'.cell? ⟨sv, 1, none⟩ = some (.int .i64 (S.sites : Int)) ∧ w'.cell? ⟨sv, 2, none⟩ = some (.int .i64 (S.fields : Int)) ∧ w'.cell? ⟨sv, 3, none⟩ = some V6.cons ∧ w'.cell? ⟨bw, 1, none⟩ = some (.int .i64 (cc5.a : Int)) ∧ w'.cell? ⟨bw, 2, none⟩ = some (.int .i64 (cc5.b : Int)) ∧ w'.cell? ⟨bw, 3, none⟩ = some (.int .i64 (cc5.f : Int))) (by kernel_rfl) (by kernel_rfl) (by kernel_rfl) ⟨b0, b1, b2, b3, d1, d2, d3⟩ ?_
                            repeat (
                              refine wpHeads_cons (v := ?_) rfl (Or.inl ⟨by rfl, ?_⟩) ?_
                              rotate_left
                              · (intro W hW; go_simp; try with_reducible rfl)
                              simp only [Act.put, List.setIfInBounds_toArray])
                            refine wpHeads_nil ?_
                            refine wpTails_cons rfl ?_
                            go_wp2_with fail
                            obtain ⟨nn, hnn, hcl7⟩ := cell_is S y cc5.f V6.cons (W9.drew) hV hF (by have := HY.out.1; omega) (by have := HK.out.2.2.2.2.2; omega)
                            refine hcl7.mono ?_
                            rintro e W7 ⟨rfl, q7⟩
                            have g7 : W9.grownBy W7 none := grownBy_trans (grownBy_drew0 _) (grownBy_below q7)
                            go_wp2_with fail
                            refine tail_mk ⟨g7.cell b0 (by simp), g7.cell b1 (by simp), g7.cell b2 (by simp), g7.cell b3 (by simp), g7.cell d1 (by simp), g7.cell d2 (by simp), g7.cell d3 (by simp)⟩ ?_
                            refine wpTails_one rfl ?_
                            have HM7 := Lib.hid (And.intro (H9.out.1.keep g7) (And.intro (hh.out.2.1.trans (H9.out.2.trans (Ext.grown (rl := rl6) g7))) hh.out.2.2))
                            clear g7 q7 b0 b1 b2 b3 d1 d2 d3 hh
                            subst hnn
                            clear hcl7
                            go_wp2_with fail
                            refine (join_anyV HM7.out.1 (cc5.a) (S.cell y cc5.f) HK.out.2.2.2.1 HK.out.2.2.1 hN HK.out.1 HK.out.2.1).mono ?_
                            rintro e W8 ⟨v8, rl8, V8, st8, rfl, hp, m8, e8, k8⟩
                            have H8 := Lib.hid (And.intro m8 (And.intro (HM7.out.2.1.trans e8) (And.intro (HM7.out.2.2.1.trans k8) (Joins.snoc (e := (cc5.a, S.cell y cc5.f)) HM7.out.2.2.2 hp))))
                            clear hp m8 e8 k8
                            go_wp2_with fail
                            refine thenQ_mk ?_
                            go_wp2_with fail
                            go_roundw
                            case rel => exact ⟨i + 1, rl8, V8, st8, by omega, by go_num, H8.out.1, H8.out.2.1, H8.out.2.2.1, by
                              have h9 := H8.out.2.2.2
                              rw [HK.out.2.2.2.2.1, ← List.append_assoc]; exact h9⟩
                            case measure => simp [intOf]; omega
                          · obtain rfl : i = ns := by omega
                            have hJ5 := hh.out.2.2.2
                            rw [HN.out.2, List.take_length, List.append_assoc] at hJ5
                            have hJ6 : Joins ((L.take (j + 1)).flatMap (vj S ldn srn)) st3 st6 := by
                              rw [take_snoc _ _ HY.out.2.1, List.flatMap_append, ← HYy.out.1]
                              simpa [vj] using hJ5
                            have H7 := Lib.hid (And.intro hh.out.1 (And.intro hh.out.2.1 (And.intro (H6.out.2.2.1.trans hh.out.2.2.1) hJ6)))
                            clear hh hJ5 hJ6
                            go_wp2_with fail
                            go_roundw
                            case rel => exact ⟨j + 1, rl6, V6, st6, by have := HY.out.2.1; omega, by go_num, H7.out⟩
                            case measure => have := HY.out.2.1; simp [intOf]; omega
                  · obtain rfl : j = L.length := by omega
                    have hJ5 := hh.out.2.2.2
                    rw [List.take_length] at hJ5
                    have H7 := Lib.hid (And.intro hh.out.1 (And.intro (H5.out.2.1.trans hh.out.2.1) hJ5))
                    clear hh hJ5
                    go_wp2_with fail
                    go_end0
                    exact ⟨_, rl4, V4, st4, rfl, HE.out.1 HPL.out HL.out.1 H7.out.2.2, H7.out.1, H7.out.2.1⟩
              · have hb1' : ((nl : Int) == 0) = true := by simp [hb1]
                have hb2' : ((ns : Int) == 0) = false := by simp [hb2]
                clear hb1 hb2
                go_wp2_with fail
                refine (List_S H3.out.2.2.1).mono ?_
                rintro e W5 ⟨a5, c5, L, rfl, o5, mL, pL, lL, q5⟩
                have HPL := Lib.hid pL
                clear pL
                have g5 := grownBy_below q5
                have hr5 : ∀ k, (Value.slice a5 L.length c5).ownBlock = some k → rl3 k = 0 := fun k hk => H3.out.1.fr k (o5.lt k hk).1
                have H5 := Lib.hid (And.intro (H3.out.1.keep g5) (And.intro (H3.out.2.1.trans (Ext.grown (rl := rl3) g5)) (And.intro o5.lst hr5)))
                have HL := Lib.hid (And.intro mL (And.intro lL (vj_lt HO.out HQ.out.1 HQ.out.2.1 mL)))
                have hix : ∀ (x : Int), 0 ≤ x → x < L.length → ∀ Z, (Instr.indexAt 27 (.slice a5 L.length c5) (.int .i64 x)).run Try.prog Z = .ok (.pointer (some ⟨blk a5, ofs a5 + x.toNat, none⟩)) Z := by
                  obtain ⟨a6, c6, he6, -, hidx6, -⟩ := o5.lst.out1 sInt
                  simp only [Value.slice.injEq] at he6
                  obtain ⟨rfl, he6, rfl⟩ := he6
                  intro x h0 h1
                  have := hidx6 .i64 x h0 (by rw [← he6]; exact h1)
                  rw [← he6] at this; exact this
                clear hr5 o5 mL q5 g5 c8 cL c9 cT
                go_wp2_with fail
                go_loopw [10, 102] (fun _ x wr4 => ∃ (j : Nat) (rl4 : Nat → Nat) (V4 : Vals) (st4 : St), j ≤ L.length ∧ x = .int .i64 j ∧ Hid (Mem S w0 sv rl4 V4 st4 wr4 ∧ Ext rl3 rl4 W5 wr4 ∧ KJ V3 V4 ∧ Joins ((L.take j).flatMap (vj S ldn srn)) st3 st4)) (fun _ x _ => L.length - (intOf x).toNat)
                case atStart => exact ⟨0, rl3, V3, st3, by omega, rfl, H5.out.1, Ext.refl _ _, KJ.refl _, rfl⟩
                case round =>
                  obtain ⟨j, rl4, V4, st4, hj, rfl, hh⟩ := hrel
                  by_cases hlt : j < L.length
                  · have hys : nth L j < S.sites := HO.out.fb _ ((HL.out.1 _).2 (nth_mem L j hlt))
                    have hlst := lst_ext H5.out.2.2.1 hh.out.2.1 (fun _ k hk => .inl (H5.out.2.2.2 k hk))
                    have hcl : wr.cell? ⟨blk a5, ofs a5 + j, none⟩ = some (.int .i64 ((nth L j : Nat) : Int)) := by
                      obtain ⟨a6, c6, he6, -, -, hcell6, -⟩ := hlst.out1 sInt
                      simp only [Value.slice.injEq] at he6
                      obtain ⟨rfl, -, rfl⟩ := he6
                      have := hcell6 j (by simpa using hlt)
                      rw [this]; simp [nth, hlt]
                    have hld4 : st4.ld node = ldn := by rw [hh.out.2.2.2.le.2.2.2.2.1]; exact HQ.out.2.2.2.2.1
                    have hsr4 : st4.sr node = srn := by rw [hh.out.2.2.2.le.2.2.2.2.2]; exact HQ.out.2.2.2.2.2
                    have hlv4 : nth V4.lvs node = .slice lra ldn.length lrc := by rw [hh.out.2.2.1.2.1]; exact HQ.out.2.2.1
                    have hsv4 : nth V4.svs node = .slice tra srn.length trc := by rw [hh.out.2.2.1.2.2]; exact HQ.out.2.2.2.1
                    have hsv4' := hsv4
                    obtain ⟨la4, lc4, hla4⟩ := hh.out.1.ldV
                    have i7 := hh.out.1.ldIx hla4 hv
                    obtain ⟨c8, cL, -⟩ := hh.out.1.ldAt hla4 hv
                    rw [hlv4, ← HN.out.1] at cL
                    have HY := Lib.hid (And.intro hys (And.intro hlt (And.intro hld4 (And.intro hsr4 (And.intro hlv4 hsv4)))))
                    have H4 := hh
                    clear hys hlst hld4 hsr4 hlv4 hsv4 hsv4' hla4 hh
                    obtain ⟨y, hy⟩ : ∃ y, y = nth L j := ⟨_, rfl⟩
                    rw [← hy] at hcl HY
                    have HYy := Lib.hid (And.intro hy trivial)
                    clear hy
                    go_wp2_with fail
                    clear c8 cL i7 hcl
                    go_loopw [12, 114] (fun _ x wr5 => ∃ (i : Nat) (rl5 : Nat → Nat) (V5 : Vals) (st5 : St), i ≤ nl ∧ x = .int .i64 i ∧ Hid (Mem S w0 sv rl5 V5 st5 wr5 ∧ Ext rl3 rl5 W5 wr5 ∧ KJ V4 V5 ∧ Joins ((L.take j).flatMap (vj S ldn srn) ++ (ldn.take i).map fun c => (S.cell y c.f, c.b)) st3 st5)) (fun _ x _ => nl - (intOf x).toNat)
                    case atStart => exact ⟨0, rl4, V4, st4, by omega, rfl, H4.out.1, H4.out.2.1, KJ.refl _, by simpa using H4.out.2.2.2⟩
                    case round =>
                      obtain ⟨i, rl5, V5, st5, hi, rfl, hh⟩ := hrel
                      by_cases hlt2 : i < nl
                      · have hil : i < ldn.length := by rw [← HN.out.1]; exact hlt2
                        obtain ⟨za, zn, zc, e0, e1, e2, e3, e4⟩ := hh.out.1.ldCell (l := ldn) (a := lra) (c := lrc) hv (by rw [hh.out.2.2.2.le.2.2.2.2.1]; exact HQ.out.2.2.2.2.1) (by rw [hh.out.2.2.1.2.1]; exact HY.out.2.2.2.2.1) i hil
                        have hmid5 := H3.out.2.2.2.2.joins hh.out.2.2.2 fun e he => (HL.out.2.2 e (vj_sub1 HY.out.2.1 (by rw [← HYy.out.1]; exact he))).2
                        have htd5 := hmid5.todoLe H1.out.2.2.2.2.2.2.2.2.2.2 HO.out.ns
                        have hln := vj_small (S := S) (ld := ldn) (sr := srn) HL.out.2.1 (by rw [HQ.out.1]; exact HO.out.ldl) (by rw [HQ.out.2.1]; exact HO.out.srl) j
                        have hcp5 : (st5.cp (S.cell y (nth ldn i).f)).length ≤ 100000000 := by
                          have q1 := hmid5.cp (S.cell y (nth ldn i).f)
                          have q2 := HO.out.cpl (S.cell y (nth ldn i).f)
                          have q3 : ldn.length ≤ 300 := by rw [HQ.out.1]; exact HO.out.ldl
                          rw [H1.out.2.2.2.2.2.2.1] at q1
                          simp only [List.length_append, List.length_map, List.length_take] at q1
                          omega
                        have hok := HO.out.ld (nth ldn i) (by rw [← HQ.out.1]; exact nth_mem _ _ hil)
                        have hcN := Syst.cell_lt HY.out.1 hok.2
                        have hyt : (ldn.take (i + 1)).map (fun c => (S.cell y c.f, c.b)) = (ldn.take i).map (fun c => (S.cell y c.f, c.b)) ++ [(S.cell y (nth ldn i).f, (nth ldn i).b)] := by rw [take_snoc _ _ hil]; simp
                        have HK := Lib.hid (And.intro htd5 (And.intro hcp5 (And.intro hcN (And.intro hok.1 (And.intro hyt hok.2)))))
                        clear hmid5 htd5 hln hcp5 hcN hyt hil hok
                        generalize nth ldn i = cc5 at *
                        go_wp2_with fail
                        have g9 := grownBy_alloc wr (.cells #[.int .i64 (cc5.k : Int), .int .i64 cc5.a, .int .i64 cc5.b, .int .i64 cc5.f, .slice za zn zc] 37)
                        refine wp_gen (fun Z => Mem S w0 sv rl5 V5 st5 Z ∧ Ext rl5 rl5 wr Z ∧ BoxC Z wr.heap.size cc5.k cc5.a cc5.b cc5.f (.slice za zn zc)) ⟨hh.out.1.keep g9, Ext.grown g9, BoxC.new _ _ _ _ _ _ _⟩ ?_
                        clear g9 e0 e1 e2 e3 e4
                        rintro W9 ⟨m9, x9, d0, d1, d2, d3, d4⟩
                        obtain ⟨bw, hbw⟩ : ∃ bw, bw = wr.heap.size := ⟨_, rfl⟩
                        rw [← hbw] at d0 d1 d2 d3 d4 ⊢
                        clear hbw
                        have b0 := (m9.fld 0 (v := .int .i64 (S.vars : Int)) rfl).1
                        have b1 := (m9.fld 1 (v := .int .i64 (S.sites : Int)) rfl).1
                        have b2 := (m9.fld 2 (v := .int .i64 (S.fields : Int)) rfl).1
                        have b3 := (m9.fld 3 (v := V5.cons) rfl).1
                        have H9 := Lib.hid (And.intro m9 x9)
                        clear m9 x9 d0 d4
                        refine wp_region_mix [0, 1, 2, 3, 4, 5, 6, 7, 9, 10] [8, 11] (fun w' => w'.cell? ⟨sv, 0, none⟩ = some (.int .i64 (S.vars : Int)) ∧ w'.cell? ⟨sv, 1, none⟩ = some (.int .i64 (S.sites : Int)) ∧ w'.cell? ⟨sv, 2, none⟩ = some (.int .i64 (S.fields : Int)) ∧ w'.cell? ⟨sv, 3, none⟩ = some V5.cons ∧ w'.cell? ⟨bw, 1, none⟩ = some (.int .i64 (cc5.a : Int)) ∧ w'.cell? ⟨bw, 2, none⟩ = some (.int .i64 (cc5.b : Int)) ∧ w'.cell? ⟨bw, 3, none⟩ = some (.int .i64 (cc5.f : Int))) (by kernel_rfl) (by kernel_rfl) (by kernel_rfl) ⟨b0, b1, b2, b3, d1, d2, d3⟩ ?_
                        repeat (
                          refine wpHeads_cons (v := ?_) rfl (Or.inl ⟨by rfl, ?_⟩) ?_
                          rotate_left
                          · (intro W hW; go_simp; try with_reducible rfl)
                          simp only [Act.put, List.setIfInBounds_toArray])
                        refine wpHeads_nil ?_
                        refine wpTails_cons rfl ?_
                        go_wp2_with fail
                        obtain ⟨nn, hnn, hcl7⟩ := cell_is S y cc5.f V5.cons (W9.drew) hV hF (by have := HY.out.1; omega) (by have := HK.out.2.2.2.2.2; omega)
                        refine hcl7.mono ?_
                        rintro e W7 ⟨rfl, q7⟩
                        have g7 : W9.grownBy W7 none := grownBy_trans (grownBy_drew0 _) (grownBy_below q7)
                        go_wp2_with fail
                        refine tail_mk ⟨g7.cell b0 (by simp), g7.cell b1 (by simp), g7.cell b2 (by simp), g7.cell b3 (by simp), g7.cell d1 (by simp), g7.cell d2 (by simp), g7.cell d3 (by simp)⟩ ?_
                        refine wpTails_one rfl ?_
                        have HM7 := Lib.hid (And.intro (H9.out.1.keep g7) (And.intro (hh.out.2.1.trans (H9.out.2.trans (Ext.grown (rl := rl5) g7))) hh.out.2.2))
                        clear g7 q7 b0 b1 b2 b3 d1 d2 d3 hh
                        subst hnn
                        clear hcl7
                        go_wp2_with fail
                        refine (join_anyV HM7.out.1 (S.cell y cc5.f) (cc5.b) HK.out.2.2.1 HK.out.2.2.2.1 hN HK.out.1 HK.out.2.1).mono ?_
                        rintro e W8 ⟨v8, rl8, V8, st8, rfl, hp, m8, e8, k8⟩
                        have H8 := Lib.hid (And.intro m8 (And.intro (HM7.out.2.1.trans e8) (And.intro (HM7.out.2.2.1.trans k8) (Joins.snoc (e := (S.cell y cc5.f, cc5.b)) HM7.out.2.2.2 hp))))
                        clear hp m8 e8 k8
                        go_wp2_with fail
                        refine thenQ_mk ?_
                        go_wp2_with fail
                        go_roundw
                        case rel => exact ⟨i + 1, rl8, V8, st8, by omega, by go_num, H8.out.1, H8.out.2.1, H8.out.2.2.1, by
                          have h9 := H8.out.2.2.2
                          rw [HK.out.2.2.2.2.1, ← List.append_assoc]; exact h9⟩
                        case measure => simp [intOf]; omega
                      · obtain rfl : i = nl := by omega
                        have hJ4 := hh.out.2.2.2
                        rw [HN.out.1, List.take_length] at hJ4
                        have hsv5 : nth V5.svs node = .slice tra srn.length trc := by rw [hh.out.2.2.1.2.2]; exact HY.out.2.2.2.2.2
                        obtain ⟨ta5, tc5, hta5⟩ := hh.out.1.srV
                        have i8 := hh.out.1.srIx hta5 hv
                        obtain ⟨c9, cT, -⟩ := hh.out.1.srAt hta5 hv
                        rw [hsv5, ← HN.out.2] at cT
                        have H6 := Lib.hid (And.intro hh.out.1 (And.intro hh.out.2.1 (And.intro (H4.out.2.2.1.trans hh.out.2.2.1) (And.intro hJ4 hsv5))))
                        clear hh hJ4 hsv5 hta5 hi hlt2
                        go_wp2_with fail
                        clear c9 cT i8
                        go_loopw [14, 139] (fun _ x wr6 => ∃ (i : Nat) (rl6 : Nat → Nat) (V6 : Vals) (st6 : St), i ≤ ns ∧ x = .int .i64 i ∧ Hid (Mem S w0 sv rl6 V6 st6 wr6 ∧ Ext rl3 rl6 W5 wr6 ∧ KJ V5 V6 ∧ Joins (((L.take j).flatMap (vj S ldn srn) ++ ldn.map fun c => (S.cell y c.f, c.b)) ++ (srn.take i).map fun c => (c.a, S.cell y c.f)) st3 st6)) (fun _ x _ => ns - (intOf x).toNat)
                        case atStart => exact ⟨0, rl5, V5, st5, by omega, rfl, H6.out.1, H6.out.2.1, KJ.refl _, by simpa using H6.out.2.2.2.1⟩
                        case round =>
                          obtain ⟨i, rl6, V6, st6, hi, rfl, hh⟩ := hrel
                          by_cases hlt2 : i < ns
                          · have hil : i < srn.length := by rw [← HN.out.2]; exact hlt2
                            obtain ⟨za, zn, zc, e0, e1, e2, e3, e4⟩ := hh.out.1.srCell (l := srn) (a := tra) (c := trc) hv (by rw [hh.out.2.2.2.le.2.2.2.2.2]; exact HQ.out.2.2.2.2.2) (by rw [hh.out.2.2.1.2.2]; exact H6.out.2.2.2.2) i hil
                            have hmid5 := H3.out.2.2.2.2.joins hh.out.2.2.2 fun e he => (HL.out.2.2 e (vj_sub2 HY.out.2.1 (by rw [← HYy.out.1]; exact he))).2
                            have htd5 := hmid5.todoLe H1.out.2.2.2.2.2.2.2.2.2.2 HO.out.ns
                            have hln := vj_small (S := S) (ld := ldn) (sr := srn) HL.out.2.1 (by rw [HQ.out.1]; exact HO.out.ldl) (by rw [HQ.out.2.1]; exact HO.out.srl) j
                            have hcp5 : (st6.cp (nth srn i).a).length ≤ 100000000 := by
                              have q1 := hmid5.cp (nth srn i).a
                              have q2 := HO.out.cpl (nth srn i).a
                              have q3 : ldn.length ≤ 300 := by rw [HQ.out.1]; exact HO.out.ldl
                              have q4 : srn.length ≤ 300 := by rw [HQ.out.2.1]; exact HO.out.srl
                              rw [H1.out.2.2.2.2.2.2.1] at q1
                              simp only [List.length_append, List.length_map, List.length_take] at q1
                              omega
                            have hok := HO.out.sr (nth srn i) (by rw [← HQ.out.2.1]; exact nth_mem _ _ hil)
                            have hcN := Syst.cell_lt HY.out.1 hok.2
                            have hyt : (srn.take (i + 1)).map (fun c => (c.a, S.cell y c.f)) = (srn.take i).map (fun c => (c.a, S.cell y c.f)) ++ [((nth srn i).a, S.cell y (nth srn i).f)] := by rw [take_snoc _ _ hil]; simp
                            have HK := Lib.hid (And.intro htd5 (And.intro hcp5 (And.intro hcN (And.intro hok.1 (And.intro hyt hok.2)))))
                            clear hmid5 htd5 hln hcp5 hcN hyt hil hok
                            generalize nth srn i = cc5 at *
                            go_wp2_with fail
                            have g9 := grownBy_alloc wr (.cells #[.int .i64 (cc5.k : Int), .int .i64 cc5.a, .int .i64 cc5.b, .int .i64 cc5.f, .slice za zn zc] 37)
                            refine wp_gen (fun Z => Mem S w0 sv rl6 V6 st6 Z ∧ Ext rl6 rl6 wr Z ∧ BoxC Z wr.heap.size cc5.k cc5.a cc5.b cc5.f (.slice za zn zc)) ⟨hh.out.1.keep g9, Ext.grown g9, BoxC.new _ _ _ _ _ _ _⟩ ?_
                            clear g9 e0 e1 e2 e3 e4
                            rintro W9 ⟨m9, x9, d0, d1, d2, d3, d4⟩
                            obtain ⟨bw, hbw⟩ : ∃ bw, bw = wr.heap.size := ⟨_, rfl⟩
                            rw [← hbw] at d0 d1 d2 d3 d4 ⊢
                            clear hbw
                            have b0 := (m9.fld 0 (v := .int .i64 (S.vars : Int)) rfl).1
                            have b1 := (m9.fld 1 (v := .int .i64 (S.sites : Int)) rfl).1
                            have b2 := (m9.fld 2 (v := .int .i64 (S.fields : Int)) rfl).1
                            have b3 := (m9.fld 3 (v := V6.cons) rfl).1
                            have H9 := Lib.hid (And.intro m9 x9)
                            clear m9 x9 d0 d4
                            refine wp_region_mix [0, 1, 2, 3, 4, 5, 6, 7, 8, 9] [10, 11] (fun w' => w'.cell? ⟨sv, 0, none⟩ = some (.int .i64 (S.vars : Int)) ∧ w'.cell? ⟨sv, 1, none⟩ = some (.int .i64 (S.sites : Int)) ∧ w'.cell? ⟨sv, 2, none⟩ = some (.int .i64 (S.fields : Int)) ∧ w'.cell? ⟨sv, 3, none⟩ = some V6.cons ∧ w'.cell? ⟨bw, 1, none⟩ = some (.int .i64 (cc5.a : Int)) ∧ w'.cell? ⟨bw, 2, none⟩ = some (.int .i64 (cc5.b : Int)) ∧ w'.cell? ⟨bw, 3, none⟩ = some (.int .i64 (cc5.f : Int))) (by kernel_rfl) (by kernel_rfl) (by kernel_rfl) ⟨b0, b1, b2, b3, d1, d2, d3⟩ ?_
                            repeat (
                              refine wpHeads_cons (v := ?_) rfl (Or.inl ⟨by rfl, ?_⟩) ?_
                              rotate_left
                              · (intro W hW; go_simp; try with_reducible rfl)
                              simp only [Act.put, List.setIfInBounds_toArray])
                            refine wpHeads_nil ?_
                            refine wpTails_cons rfl ?_
                            go_wp2_with fail
                            obtain ⟨nn, hnn, hcl7⟩ := cell_is S y cc5.f V6.cons (W9.drew) hV hF (by have := HY.out.1; omega) (by have := HK.out.2.2.2.2.2; omega)
                            refine hcl7.mono ?_
                            rintro e W7 ⟨rfl, q7⟩
                            have g7 : W9.grownBy W7 none := grownBy_trans (grownBy_drew0 _) (grownBy_below q7)
                            go_wp2_with fail
                            refine tail_mk ⟨g7.cell b0 (by simp), g7.cell b1 (by simp), g7.cell b2 (by simp), g7.cell b3 (by simp), g7.cell d1 (by simp), g7.cell d2 (by simp), g7.cell d3 (by simp)⟩ ?_
                            refine wpTails_one rfl ?_
                            have HM7 := Lib.hid (And.intro (H9.out.1.keep g7) (And.intro (hh.out.2.1.trans (H9.out.2.trans (Ext.grown (rl := rl6) g7))) hh.out.2.2))
                            clear g7 q7 b0 b1 b2 b3 d1 d2 d3 hh
                            subst hnn
                            clear hcl7
                            go_wp2_with fail
                            refine (join_anyV HM7.out.1 (cc5.a) (S.cell y cc5.f) HK.out.2.2.2.1 HK.out.2.2.1 hN HK.out.1 HK.out.2.1).mono ?_
                            rintro e W8 ⟨v8, rl8, V8, st8, rfl, hp, m8, e8, k8⟩
                            have H8 := Lib.hid (And.intro m8 (And.intro (HM7.out.2.1.trans e8) (And.intro (HM7.out.2.2.1.trans k8) (Joins.snoc (e := (cc5.a, S.cell y cc5.f)) HM7.out.2.2.2 hp))))
                            clear hp m8 e8 k8
                            go_wp2_with fail
                            refine thenQ_mk ?_
                            go_wp2_with fail
                            go_roundw
                            case rel => exact ⟨i + 1, rl8, V8, st8, by omega, by go_num, H8.out.1, H8.out.2.1, H8.out.2.2.1, by
                              have h9 := H8.out.2.2.2
                              rw [HK.out.2.2.2.2.1, ← List.append_assoc]; exact h9⟩
                            case measure => simp [intOf]; omega
                          · obtain rfl : i = ns := by omega
                            have hJ5 := hh.out.2.2.2
                            rw [HN.out.2, List.take_length, List.append_assoc] at hJ5
                            have hJ6 : Joins ((L.take (j + 1)).flatMap (vj S ldn srn)) st3 st6 := by
                              rw [take_snoc _ _ HY.out.2.1, List.flatMap_append, ← HYy.out.1]
                              simpa [vj] using hJ5
                            have H7 := Lib.hid (And.intro hh.out.1 (And.intro hh.out.2.1 (And.intro (H6.out.2.2.1.trans hh.out.2.2.1) hJ6)))
                            clear hh hJ5 hJ6
                            go_wp2_with fail
                            go_roundw
                            case rel => exact ⟨j + 1, rl6, V6, st6, by have := HY.out.2.1; omega, by go_num, H7.out⟩
                            case measure => have := HY.out.2.1; simp [intOf]; omega
                  · obtain rfl : j = L.length := by omega
                    have hJ5 := hh.out.2.2.2
                    rw [List.take_length] at hJ5
                    have H7 := Lib.hid (And.intro hh.out.1 (And.intro (H5.out.2.1.trans hh.out.2.1) hJ5))
                    clear hh hJ5
                    go_wp2_with fail
                    go_end0
                    exact ⟨_, rl4, V4, st4, rfl, HE.out.1 HPL.out HL.out.1 H7.out.2.2, H7.out.1, H7.out.2.1⟩
      · go_wp2_with fail
        go_end0
        exact ⟨_, rl2, V2, st2, rfl, ⟨L0, HPL0.out, HL0.out, st2, by have := H2.out.2.2.2.1; rw [HC.out.1, H1.out.2.2.2.2.1] at this; exact this, .inl ⟨by omega, rfl⟩⟩, H2.out.1, H2.out.2.1⟩
end Go.Proofs.Ytkfhopnolflchaa
