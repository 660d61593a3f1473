/- Texts of the claim, merged. -/
import Derived.Laws.EntriesVeiled
import Derived.Deep.LoopGhost
import Derived.Laws.ResultCell
import Derived.Test.YtgblfjccccdidaaGreatVZa
section
namespace Go.And
def vj (S : Syst) (ld sr : List C) (y : Nat) : List (Nat × Nat):=(ld.map fun c => (S.cell y c.f,c.b)) ++ (sr.map fun c => (c.a,S.cell y c.f))
theorem vj_len (S : Syst) (ld sr : List C) : ∀ L : List Nat,(L.flatMap (vj S ld sr)).length = L.length * (ld.length + sr.length)
 | [] => by simp
 | y :: L => by
   rw [List.flatMap_cons,List.length_append,vj_len S ld sr L,List.length_cons,Nat.succ_mul]
   simp [vj]; omega
structure VisOk (S : Syst) (node : Nat) (st : St) : Prop where
 cp : ∀ t ∈ st.cp node,t < S.N
 pt : ∀ e ∈ st.pt node,e.1 < S.N
 ld : ∀ c ∈ st.ld node,c.b < S.N∧c.f < S.fields
 sr : ∀ c ∈ st.sr node,c.a < S.N∧c.f < S.fields
 bnd : ∀ j x,st.p j x = true→x < S.sites
 fb : ∀ x,st.f node x = true→x < S.sites
 ldl : (st.ld node).length ≤ 300
 srl : (st.sr node).length ≤ 300
 todo : st.todo.length ≤ 500000
 cpl : ∀ i,(st.cp i).length ≤ 50000000
 ns : S.N * S.sites ≤ 500000
structure Mid (S : Syst) (st st2 : St) (k : Nat) : Prop where
 bnd : ∀ j x,st2.p j x = true→x < S.sites
 todo : st2.todo.length + mass S st ≤ st.todo.length + mass S st2
 cp : ∀ i,(st2.cp i).length ≤ (st.cp i).length + k
 pt : st2.pt = st.pt
 ld : st2.ld = st.ld
 sr : st2.sr = st.sr
theorem Mid.refl {S : Syst} {st : St} (h : ∀ j x,st.p j x = true→x < S.sites) : Mid S st st 0:=⟨h,Nat.le_refl _,fun _ => Nat.le_refl _,rfl,rfl,rfl⟩
theorem Mid.puts {S : Syst} {st a b : St} {k : Nat} {l : List (Nat × (Nat→Bool))} (h : Mid S st a k) (hp : Puts l a b) (hl : ∀ e ∈ l,e.1 < S.N∧∀ x,e.2 x = true→x < S.sites) : Mid S st b k:=by
 have q:=hp.mass hl
 have l:=hp.le
 refine ⟨hp.bnd (fun e he => (hl e he).2) h.bnd,by have:=h.todo; omega,fun i => by rw [hp.len]; exact h.cp i,by rw [l.2.2.2.1,h.pt],by rw [l.2.2.2.2.1,h.ld],by rw [l.2.2.2.2.2,h.sr]⟩
theorem Mid.joins {S : Syst} {st a b : St} {k : Nat} {l : List (Nat × Nat)} (h : Mid S st a k) (hp : Joins l a b) (hl : ∀ e ∈ l,e.2 < S.N) : Mid S st b (k + l.length):=by
 have q:=hp.mass hl h.bnd
 have l:=hp.le
 refine ⟨hp.bnd h.bnd,by have:=h.todo; omega,fun i => by have:=hp.len i; have:=h.cp i; omega,by rw [l.2.2.2.1,h.pt],by rw [l.2.2.2.2.1,h.ld],by rw [l.2.2.2.2.2,h.sr]⟩
theorem Mid.todoLe {S : Syst} {st a : St} {k : Nat} (h : Mid S st a k) (ht : st.todo.length ≤ 500000) (hn : S.N * S.sites ≤ 500000) : a.todo.length ≤ 1000000:=by
 have:=h.todo; have:=mass_le S a; omega
theorem vj_sub1 {S : Syst} {ld sr : List C} {L : List Nat} {j i : Nat} (hj : j < L.length) {e : Nat × Nat} (he : e ∈ (L.take j).flatMap (vj S ld sr) ++ (ld.take i).map fun c => (S.cell (Go.Dfl.nth L j) c.f,c.b)) : e ∈ L.flatMap (vj S ld sr):=by
 rcases List.mem_append.1 he with h | h
 ·obtain ⟨y,hy,h⟩:=List.mem_flatMap.1 h
  exact List.mem_flatMap.2 ⟨y,List.mem_of_mem_take hy,h⟩
 ·obtain ⟨c,hc,rfl⟩:=List.mem_map.1 h
  exact List.mem_flatMap.2 ⟨_,Go.Dfl.nth_mem L j hj,List.mem_append.2 (.inl (List.mem_map.2 ⟨c,List.mem_of_mem_take hc,rfl⟩))⟩
theorem vj_sub2 {S : Syst} {ld sr : List C} {L : List Nat} {j i : Nat} (hj : j < L.length) {e : Nat × Nat} (he : e ∈ ((L.take j).flatMap (vj S ld sr) ++ ld.map fun c => (S.cell (Go.Dfl.nth L j) c.f,c.b)) ++ (sr.take i).map fun c => (c.a,S.cell (Go.Dfl.nth L j) c.f)) : e ∈ L.flatMap (vj S ld sr):=by
 rcases List.mem_append.1 he with h | h
 ·exact vj_sub1 (i:=ld.length) hj (by rw [List.take_length]; exact h)
 ·obtain ⟨c,hc,rfl⟩:=List.mem_map.1 h
  exact List.mem_flatMap.2 ⟨_,Go.Dfl.nth_mem L j hj,List.mem_append.2 (.inr (List.mem_map.2 ⟨c,List.mem_of_mem_take hc,rfl⟩))⟩
theorem vj_small {S : Syst} {ld sr : List C} {L : List Nat} (hL : L.length ≤ 65536) (h1 : ld.length ≤ 300) (h2 : sr.length ≤ 300) (j : Nat) : ((L.take j).flatMap (vj S ld sr)).length ≤ 39321600:=by
 rw [vj_len]
 have : (L.take j).length ≤ 65536:=by simp; omega
 calc (L.take j).length * (ld.length + sr.length) ≤ 65536 * 600:=Nat.mul_le_mul this (by omega)
  _ ≤ 39321600:=by omega
theorem vj_lt {S : Syst} {node : Nat} {st : St} (ok : VisOk S node st) {ld sr : List C} (h1 : ld = st.ld node) (h2 : sr = st.sr node) {L : List Nat} (hL : ∀ y,st.f node y = true ↔ y ∈ L) : ∀ e ∈ L.flatMap (vj S ld sr),e.1 < S.N∧e.2 < S.N:=by
 subst h1 h2
 intro e he
 obtain ⟨y,hy,h⟩:=List.mem_flatMap.1 he
 have hys:=ok.fb y ((hL y).2 hy)
 rcases List.mem_append.1 h with h | h
 ·obtain ⟨c,hc,rfl⟩:=List.mem_map.1 h
  exact ⟨Syst.cell_lt hys (ok.ld c hc).2,(ok.ld c hc).1⟩
 ·obtain ⟨c,hc,rfl⟩:=List.mem_map.1 h
  exact ⟨(ok.sr c hc).1,Syst.cell_lt hys (ok.sr c hc).2⟩
end Go.And
namespace Go.Proofs.YtgblfjccccdidaaGreat
open Go.RowKit Go.Dfl Go.And
section
variable {S : Syst} {w0 : World} {sv : Nat} {rl : Nat→Nat} {V : Vals} {st : St} {W : World}
theorem Mem.cpCell (h : Mem S w0 sv rl V st W) {i : Nat} (hi : i < S.N) {a : Option Addr} {c : Nat} {l : List Nat} (hl : st.cp i = l) (hv : nth V.cvs i = .slice a l.length c) : ∀ j,j < l.length→W.cell? ⟨blk a,ofs a + j,none⟩ = some (.int .i64 ((nth l j : Nat) : Int)):=by
 obtain ⟨a2,c2,h1, -, -,h4⟩:=h.cpRow hi
 rw [hv,hl] at h1
 simp only [Value.slice.injEq] at h1
 obtain ⟨rfl, -,rfl⟩:=h1
 rw [hl] at h4
 exact h4
theorem Mem.ptCell (h : Mem S w0 sv rl V st W) {i : Nat} (hi : i < S.vars) {a : Option Addr} {c : Nat} {l : List (Nat × (Nat→Bool))} (hl : st.pt i = l) (hv : nth V.pvs i = .slice a l.length c) : ∀ j,j < l.length→∃ sa sn sc,W.cell? ⟨blk a,ofs a + j * 2,none⟩ = some (.int .i64 ((nth l j).1 : Int))∧W.cell? ⟨blk a,ofs a + j * 2 + 1,none⟩ = some (.slice sa sn sc)∧IsS rl W (.slice sa sn sc) (nth l j).2:=by
 obtain ⟨a2,c2,h1, -, -,h4⟩:=h.ptRow hi
 rw [hv,hl] at h1
 simp only [Value.slice.injEq] at h1
 obtain ⟨rfl, -,rfl⟩:=h1
 rw [hl] at h4
 exact h4
theorem Mem.ldCell (h : Mem S w0 sv rl V st W) {i : Nat} (hi : i < S.vars) {a : Option Addr} {c : Nat} {l : List C} (hl : st.ld i = l) (hv : nth V.lvs i = .slice a l.length c) : ∀ j,j < l.length→∃ sa sn sc,W.cell? ⟨blk a,ofs a + j * 5,none⟩ = some (.int .i64 ((nth l j).k : Int))∧W.cell? ⟨blk a,ofs a + j * 5 + 1,none⟩ = some (.int .i64 ((nth l j).a : Int))∧W.cell? ⟨blk a,ofs a + j * 5 + 2,none⟩ = some (.int .i64 ((nth l j).b : Int))∧W.cell? ⟨blk a,ofs a + j * 5 + 3,none⟩ = some (.int .i64 ((nth l j).f : Int))∧W.cell? ⟨blk a,ofs a + j * 5 + 4,none⟩ = some (.slice sa sn sc):=by
 obtain ⟨a2,c2,h1, -, -,h4⟩:=h.ldRow hi
 rw [hv,hl] at h1
 simp only [Value.slice.injEq] at h1
 obtain ⟨rfl, -,rfl⟩:=h1
 rw [hl] at h4
 exact h4
theorem Mem.srCell (h : Mem S w0 sv rl V st W) {i : Nat} (hi : i < S.vars) {a : Option Addr} {c : Nat} {l : List C} (hl : st.sr i = l) (hv : nth V.svs i = .slice a l.length c) : ∀ j,j < l.length→∃ sa sn sc,W.cell? ⟨blk a,ofs a + j * 5,none⟩ = some (.int .i64 ((nth l j).k : Int))∧W.cell? ⟨blk a,ofs a + j * 5 + 1,none⟩ = some (.int .i64 ((nth l j).a : Int))∧W.cell? ⟨blk a,ofs a + j * 5 + 2,none⟩ = some (.int .i64 ((nth l j).b : Int))∧W.cell? ⟨blk a,ofs a + j * 5 + 3,none⟩ = some (.int .i64 ((nth l j).f : Int))∧W.cell? ⟨blk a,ofs a + j * 5 + 4,none⟩ = some (.slice sa sn sc):=by
 obtain ⟨a2,c2,h1, -, -,h4⟩:=h.srRow hi
 rw [hv,hl] at h1
 simp only [Value.slice.injEq] at h1
 obtain ⟨rfl, -,rfl⟩:=h1
 rw [hl] at h4
 exact h4
theorem Mem.freshBlk {a : Option Addr} {n c : Nat} (h : Mem S w0 sv rl V st W) (ha : V.fresh = .slice a n c) {i : Nat} (hi : i < S.N) : rl (blk a) = 3:=by
 have hS:=h.fresh (by omega)
 rw [ha] at hS
 exact hS.role _ (own_blk hS.own (i:=i) (by rw [hS.len]; exact hi))
theorem Mem.qBlk2 {a : Option Addr} {n c : Nat} (h : Mem S w0 sv rl V st W) (ha : V.q = .slice a n c) {i : Nat} (hi : i < S.N) : rl (blk a) = 8:=by
 have hS:=h.q (by omega)
 rw [ha] at hS
 exact hS.role _ (ownB_blk hS.own (i:=i) (by rw [hS.len]; exact hi))
theorem Mem.cpBlk {a : Option Addr} {n c : Nat} (h : Mem S w0 sv rl V st W) (ha : V.cp = .slice a n c) {i : Nat} (hi : i < S.N) : rl (blk a) = 4:=by
 have hS:=h.cp (by omega)
 rw [ha] at hS
 exact hS.role _ (.inl (own_blk hS.own.out (i:=i) (by rw [hS.own.len,hS.len]; exact hi)))
end
theorem ne_of_roles {rl : Nat→Nat} {a b x y : Nat} (ha : rl a = x) (hb : rl b = y) (h : x ≠ y) : a ≠ b:=fun e => h (by rw [← ha, ← hb,e])
set_option maxHeartbeats 12800000 in
set_option maxRecDepth 100000 in
theorem visit_any {S : Syst} {w0 : World} {sv : Nat} {rl : Nat→Nat} {V : Vals} {st : St} {W : World} (h : Mem S w0 sv rl V st W) (node : Nat) (hn : node < S.N) (hN : S.N ≤ 1000000) (hF : S.fields ≤ 1000000) (hV : S.vars ≤ 1000000) (hSi : S.sites ≤ 1000000) (ok : VisOk S node st) :
  Calls Tryz.prog 68 #[.pointer (some ⟨sv,0,none⟩),.int .i64 node] W
   (DoesP (fun x y => ∃ L : List Nat,L.Pairwise (· < ·)∧(∀ z,x.f node z = true ↔ z ∈ L)∧Visit S node L x y) S w0 sv rl st W):=by
 obtain ⟨fa,fc,hfa⟩:=h.freshV
 obtain ⟨qa,qc,hqa⟩:=h.qV
 obtain ⟨ca,cc,hca⟩:=h.cpV
 have i1:=h.freshIx hfa hn
 have i2:=h.qIx hqa hn
 have i3:=h.cpIx hca hn
 obtain ⟨c5,cF,fF⟩:=h.freshAt hfa hn
 obtain ⟨c10,cQ,fQ⟩:=h.qAt hqa hn
 obtain ⟨c6,cC, -⟩:=h.cpAt hca hn
 obtain ⟨ra,rc,hra,hrl,hri, -⟩:=h.cpRow hn
 rw [hra] at cC
 have hset:=(h.fresh (by omega)).mean node hn
 obtain ⟨sa,sn,sc,hs⟩:=hset.slice
 rw [hs] at cF hset
 have n1 : sv ≠ blk fa:=ne_of_roles h.rbox (h.freshBlk hfa hn) (by omega)
 have n2 : sv ≠ blk qa:=ne_of_roles h.rbox (h.qBlk2 hqa hn) (by omega)
 have n3 : blk fa ≠ blk qa:=ne_of_roles (h.freshBlk hfa hn) (h.qBlk2 hqa hn) (by omega)
 have n4 : blk ca ≠ blk fa:=ne_of_roles (h.cpBlk hca hn) (h.freshBlk hfa hn) (by omega)
 have n5 : blk ca ≠ blk qa:=ne_of_roles (h.cpBlk hca hn) (h.qBlk2 hqa hn) (by omega)
 have n1':=Ne.symm n1
 have n2':=Ne.symm n2
 have n3':=Ne.symm n3
 have n4':=Ne.symm n4
 have n5':=Ne.symm n5
 have m1:=h.setFresh hfa hn (IsS.nil rl W)
 have m2:=m1.1.setQ hqa hn false
 have hext:=m1.2.trans m2.2
 have HM:=Lib.hid (And.intro m2.1 (And.intro hext (And.intro (hset.ex hext) hra)))
 have HO:=Lib.hid ok
 clear m1 m2 hext hset hs hra hfa hqa hca ok h
 go_enter Tryz.func68,Tryz.ntmps68
 go_wp2_with fail
 refine wp_gen (fun Z => ∃ V1 st1,st1 = { st with f:=upd st.f node (fun _ => false),q:=upd st.q node false }∧Mem S w0 sv rl V1 st1 Z∧Ext rl rl W Z∧IsS rl Z (.slice sa sn sc) (st.f node)∧nth V1.cvs node = .slice ra (st.cp node).length rc) ⟨_,_,rfl,HM.out⟩ ?_
 rintro W1 ⟨V1,st1,hst1,hM1,hE1,hs1,hr1⟩
 have hmid1 : Mid S st1 st1 0:=Mid.refl (by rw [hst1]; exact HO.out.bnd)
 have hcp1 : st1.cp = st.cp:=by rw [hst1]
 have hpt1 : st1.pt = st.pt:=by rw [hst1]
 have hld1 : st1.ld = st.ld:=by rw [hst1]
 have hsr1 : st1.sr = st.sr:=by rw [hst1]
 have htd1 : st1.todo.length ≤ 500000:=by rw [hst1]; exact HO.out.todo
 have H1:=Lib.hid (And.intro hM1 (And.intro hE1 (And.intro hs1 (And.intro hr1 (And.intro hst1 (And.intro hmid1 (And.intro hcp1 (And.intro hpt1 (And.intro hld1 (And.intro hsr1 htd1))))))))))
 obtain ⟨cpn,hcpn⟩ : ∃ cpn,cpn = st.cp node:=⟨_,rfl⟩
 rw [← hcpn] at hri hrl ⊢
 have HC:=Lib.hid (And.intro hcpn trivial)
 clear HM hM1 hE1 hs1 hr1 hst1 hmid1 hcp1 hpt1 hld1 hsr1 htd1 c5 cF fF c10 cQ fQ c6 cC n1 n2 n3 n4 n5 n1' n2' n3' n4' n5' i1 i2 i3 hcpn
 go_loopw [6,42] (fun _ x wr => ∃ (j : Nat) (rl2 : Nat→Nat) (V2 : Vals) (st2 : St),j ≤ cpn.length∧x = .int .i64 j∧Hid (Mem S w0 sv rl2 V2 st2 wr∧Ext rl rl2 W1 wr∧KP V1 V2∧Puts ((cpn.take j).map fun t => (t,st.f node)) st1 st2)) (fun _ x _ => cpn.length - (intOf x).toNat)
 case atStart => exact ⟨0,rl,V1,st1,by omega,rfl,H1.out.1,Ext.refl _ _,KP.refl _,rfl⟩
 case round =>
  obtain ⟨j,rl2,V2,st2,hj,rfl,hh⟩:=hrel
  by_cases hlt : j < cpn.length
  ·have hcl : wr.cell? ⟨blk ra,ofs ra + j,none⟩ = some (.int .i64 ((nth cpn j : Nat) : Int)):=by
    refine hh.out.1.cpCell hn (l:=cpn) (c:=rc) ?_ ?_ j hlt
    ·rw [hh.out.2.2.2.len,H1.out.2.2.2.2.2.2.1,HC.out.1]
    ·rw [hh.out.2.2.1.1,HC.out.1]; exact H1.out.2.2.2.1
   have hpl : ∀ e ∈ (cpn.take j).map (fun t => (t,st.f node)),e.1 < S.N∧∀ x,e.2 x = true→x < S.sites:=by
    intro e he
    obtain ⟨t,ht,rfl⟩:=List.mem_map.1 he
    exact ⟨HO.out.cp t (by rw [← HC.out.1]; exact List.mem_of_mem_take ht),HO.out.fb⟩
   have htN : nth cpn j < S.N:=HO.out.cp _ (by rw [← HC.out.1]; exact nth_mem _ _ hlt)
   have htd2:=(H1.out.2.2.2.2.2.1.puts hh.out.2.2.2 hpl).todoLe H1.out.2.2.2.2.2.2.2.2.2.2 HO.out.ns
   have hyt : (cpn.take (j + 1)).map (fun t => (t,st.f node)) = (cpn.take j).map (fun t => (t,st.f node)) ++ [(nth cpn j,st.f node)]:=by rw [take_snoc _ _ hlt]; simp
   have HY:=Lib.hid (And.intro hyt (And.intro htN htd2))
   clear hyt hpl htN htd2
   generalize nth cpn j = y at *
   go_wp2_with fail
   refine (put_anyV hh.out.1 y HY.out.2.1 hN HY.out.2.2 (H1.out.2.2.1.ex hh.out.2.1)).mono ?_
   rintro e W8 ⟨v8,rl8,V8,st8,rfl,hp,m8,e8,k8⟩
   have H8:=Lib.hid (And.intro m8 (And.intro (hh.out.2.1.trans e8) (And.intro (hh.out.2.2.1.trans k8) (Puts.snoc (e:=(y,st.f node)) hh.out.2.2.2 hp))))
   clear hp m8 e8 k8
   go_wp2_with fail
   go_roundw
   case rel => exact ⟨j + 1,rl8,V8,st8,by omega,by go_num,H8.out.1,H8.out.2.1,H8.out.2.2.1,by
    have h9:=H8.out.2.2.2
    rw [HY.out.1]; exact h9⟩
   case measure => simp [intOf]; omega
  ·obtain rfl : j = cpn.length:=by omega
   have hp1:=hh.out.2.2.2
   rw [List.take_length] at hp1
   have hmid:=H1.out.2.2.2.2.2.1.puts hp1 fun e he => by
    obtain ⟨t,ht,rfl⟩:=List.mem_map.1 he
    exact ⟨HO.out.cp t (by rw [← HC.out.1]; exact ht),HO.out.fb⟩
   have hs2:=H1.out.2.2.1.ex hh.out.2.1
   obtain ⟨L0,hL0⟩:=hs2.list
   have hPL0:=hL0.1
   replace hL0:=hL0.2
   have HPL0:=Lib.hid hPL0
   clear hPL0
   have H2:=Lib.hid (And.intro hh.out.1 (And.intro (H1.out.2.1.trans hh.out.2.1) (And.intro hs2 (And.intro hp1 hmid))))
   have HL0:=Lib.hid hL0
   have b0:=(hh.out.1.fld 0 (v:=.int .i64 (S.vars : Int)) rfl).1
   clear hh hp1 hmid hs2 hj hlt hri hrl hL0
   by_cases hv : node < S.vars
   ·obtain ⟨pa,pc,hpa⟩:=H2.out.1.ptV
    have i4:=H2.out.1.ptIx hpa hv
    obtain ⟨c7,cP, -⟩:=H2.out.1.ptAt hpa hv
    obtain ⟨qa2,qc2,hqa2,hql,hqi, -⟩:=H2.out.1.ptRow hv
    have hpte : st2.pt node = st.pt node:=by rw [H2.out.2.2.2.2.pt,H1.out.2.2.2.2.2.2.2.1]
    rw [hpte] at hqa2 hql hqi
    rw [hqa2] at cP
    obtain ⟨ptn,hptn⟩ : ∃ ptn,ptn = st.pt node:=⟨_,rfl⟩
    rw [← hptn] at hqa2 hql hqi cP hpte
    have HP:=Lib.hid (And.intro hptn (And.intro hqa2 hpte))
    clear hqa2 hpa hptn hpte
    have hvb : decide (S.vars ≤ node) = false:=by simp; omega
    go_wp2_with fail
    clear c7 cP i4 b0
    go_loopw [8,66] (fun _ x wr3 => ∃ (j : Nat) (rl3 : Nat→Nat) (V3 : Vals) (st3 : St),j ≤ ptn.length∧x = .int .i64 j∧Hid (Mem S w0 sv rl3 V3 st3 wr3∧Ext rl2 rl3 wr wr3∧KP V2 V3∧Puts ((ptn.take j).map fun e => (e.1,fun x => st.f node x && e.2 x)) st2 st3)) (fun _ x _ => ptn.length - (intOf x).toNat)
    case atStart => exact ⟨0,rl2,V2,st2,by omega,rfl,H2.out.1,Ext.refl _ _,KP.refl _,rfl⟩
    case round =>
     obtain ⟨j,rl3,V3,st3,hj,rfl,hh⟩:=hrel
     by_cases hlt : j < ptn.length
     ·obtain ⟨ea,en,ec,e1,e2,e3⟩:=hh.out.1.ptCell (l:=ptn) (a:=qa2) (c:=qc2) hv (by rw [hh.out.2.2.2.le.2.2.2.1]; exact HP.out.2.2) (by rw [hh.out.2.2.1.2.1]; exact HP.out.2.1) j hlt
      have hpl : ∀ e ∈ (ptn.take j).map (fun e => (e.1,fun x => st.f node x && e.2 x)),e.1 < S.N∧∀ x,e.2 x = true→x < S.sites:=by
       intro e he
       obtain ⟨t,ht,rfl⟩:=List.mem_map.1 he
       exact ⟨HO.out.pt t (by rw [← HP.out.1]; exact List.mem_of_mem_take ht),fun x hx => HO.out.fb x (by simp only [Bool.and_eq_true] at hx; exact hx.1)⟩
      have htN : (nth ptn j).1 < S.N:=HO.out.pt _ (by rw [← HP.out.1]; exact nth_mem _ _ hlt)
      have htd2:=(H2.out.2.2.2.2.puts hh.out.2.2.2 hpl).todoLe H1.out.2.2.2.2.2.2.2.2.2.2 HO.out.ns
      have hyt : (ptn.take (j + 1)).map (fun e => (e.1,fun x => st.f node x && e.2 x)) = (ptn.take j).map (fun e => (e.1,fun x => st.f node x && e.2 x)) ++ [((nth ptn j).1,fun x => st.f node x && (nth ptn j).2 x)]:=by rw [take_snoc _ _ hlt]; simp
      have HY:=Lib.hid (And.intro hyt (And.intro htN (And.intro htd2 e3)))
      clear hyt hpl htN htd2 e3
      obtain ⟨y,hy⟩ : ∃ y,y = nth ptn j:=⟨_,rfl⟩
      rw [← hy] at HY e1
      clear hy
      obtain ⟨y1,y2⟩:=y
      dsimp only at HY e1
      go_wp2_with fail
      have g9:=grownBy_alloc wr (.cells #[.int .i64 (y1 : Int),.slice ea en ec] 134)
      have d0 : (wr.alloc (.cells #[.int .i64 (y1 : Int),.slice ea en ec] 134)).cell? ⟨wr.heap.size,0,none⟩ = some (.int .i64 (y1 : Int)):=cells_new (W:=wr) (cs:=[.int .i64 (y1 : Int),.slice ea en ec]) (t:=134) rfl 0 _ rfl
      have d1 : (wr.alloc (.cells #[.int .i64 (y1 : Int),.slice ea en ec] 134)).cell? ⟨wr.heap.size,1,none⟩ = some (.slice ea en ec):=cells_new (W:=wr) (cs:=[.int .i64 (y1 : Int),.slice ea en ec]) (t:=134) rfl 1 _ rfl
      refine wp_gen (fun Z => Mem S w0 sv rl3 V3 st3 Z∧Ext rl3 rl3 wr Z∧Z.cell? ⟨wr.heap.size,0,none⟩ = some (.int .i64 (y1 : Int))∧Z.cell? ⟨wr.heap.size,1,none⟩ = some (.slice ea en ec)) ⟨hh.out.1.keep g9,Ext.grown g9,d0,d1⟩ ?_
      clear g9 d0 d1 e1 e2
      rintro W9 ⟨m9,x9,d0,d1⟩
      obtain ⟨bw,hbw⟩ : ∃ bw,bw = wr.heap.size:=⟨_,rfl⟩
      rw [← hbw] at d0 d1 ⊢
      clear hbw
      have H9:=Lib.hid (And.intro m9 x9)
      clear m9 x9
      refine wp_region_mix [0,1,2,3,4,5] [6,7] (fun w' => w'.cell? ⟨bw,0,none⟩ = some (.int .i64 (y1 : Int))∧w'.cell? ⟨bw,1,none⟩ = some (.slice ea en ec)) (by kernel_rfl) (by kernel_rfl) (by kernel_rfl) ⟨d0,d1⟩ ?_
      repeat (
       refine wpHeads_cons (v:=?_) rfl (Or.inl ⟨by rfl, ?_⟩) ?_
       rotate_left
       ·(intro W hW; go_simp; try with_reducible rfl)
       simp only [Act.put,List.setIfInBounds_toArray])
      refine wpHeads_nil ?_
      refine wpTails_cons rfl ?_
      go_wp2_with fail
      refine (Both_S (rl:=rl3) ((H2.out.2.2.1.ex hh.out.2.1).ex (H9.out.2.trans (Ext.grown (rl:=rl3) (grownBy_drew0 _)))) (HY.out.2.2.2.ex (H9.out.2.trans (Ext.grown (rl:=rl3) (grownBy_drew0 _)))) (fun k hk => H9.out.1.fr k (by simpa using hk))).mono ?_
      rintro e W5 ⟨a5,n5,c5,rfl,o5,q5⟩
      have g5 : W9.grownBy W5 none:=grownBy_trans (grownBy_drew0 _) (grownBy_below q5)
      go_wp2_with fail
      refine tail_mk ⟨g5.cell d0 (by simp),g5.cell d1 (by simp)⟩ ?_
      refine wpTails_one rfl ?_
      have H5:=Lib.hid (And.intro (H9.out.1.keep g5) (And.intro (hh.out.2.1.trans (H9.out.2.trans (Ext.grown (rl:=rl3) g5))) (And.intro hh.out.2.2 o5)))
      clear g5 q5 o5 d0 d1 hh
      go_wp2_with fail
      refine (put_anyV H5.out.1 y1 HY.out.2.1 hN HY.out.2.2.1 H5.out.2.2.2).mono ?_
      rintro e W8 ⟨v8,rl8,V8,st8,rfl,hp,m8,e8,k8⟩
      have H8:=Lib.hid (And.intro m8 (And.intro (H5.out.2.1.trans e8) (And.intro (H5.out.2.2.1.1.trans k8) (Puts.snoc (e:=(y1,fun x => st.f node x && y2 x)) H5.out.2.2.1.2 hp))))
      clear hp m8 e8 k8
      go_wp2_with fail
      refine thenQ_mk ?_
      go_wp2_with fail
      go_roundw
      case rel => exact ⟨j + 1,rl8,V8,st8,by omega,by go_num,H8.out.1,H8.out.2.1,H8.out.2.2.1,by
       have h9:=H8.out.2.2.2
       rw [HY.out.1]; exact h9⟩
      case measure => simp [intOf]; omega
     ·obtain rfl : j = ptn.length:=by omega
      have hp2:=hh.out.2.2.2
      rw [List.take_length] at hp2
      have hmid2:=H2.out.2.2.2.2.puts hp2 fun e he => by
       obtain ⟨t,ht,rfl⟩:=List.mem_map.1 he
       exact ⟨HO.out.pt t (by rw [← HP.out.1]; exact ht),fun x hx => HO.out.fb x (by simp only [Bool.and_eq_true] at hx; exact hx.1)⟩
      have hs3:=H2.out.2.2.1.ex hh.out.2.1
      have H3:=Lib.hid (And.intro hh.out.1 (And.intro (H2.out.2.1.trans hh.out.2.1) (And.intro hs3 (And.intro hp2 hmid2))))
      obtain ⟨la,lc,hla⟩:=H3.out.1.ldV
      have i5:=H3.out.1.ldIx hla hv
      obtain ⟨c8,cL, -⟩:=H3.out.1.ldAt hla hv
      obtain ⟨lra,lrc,hlra,hlrl,hlri, -⟩:=H3.out.1.ldRow hv
      obtain ⟨ta,tc,hta⟩:=H3.out.1.srV
      have i6:=H3.out.1.srIx hta hv
      obtain ⟨c9,cT, -⟩:=H3.out.1.srAt hta hv
      obtain ⟨tra,trc,htra,htrl,htri, -⟩:=H3.out.1.srRow hv
      have hlde : st3.ld node = st.ld node:=by rw [hmid2.ld,H1.out.2.2.2.2.2.2.2.2.1]
      have hsre : st3.sr node = st.sr node:=by rw [hmid2.sr,H1.out.2.2.2.2.2.2.2.2.2.1]
      rw [hlde] at hlra hlrl hlri
      rw [hsre] at htra htrl htri
      rw [hlra] at cL
      rw [htra] at cT
      obtain ⟨ldn,hldn⟩ : ∃ ldn,ldn = st.ld node:=⟨_,rfl⟩
      obtain ⟨srn,hsrn⟩ : ∃ srn,srn = st.sr node:=⟨_,rfl⟩
      rw [← hldn] at hlra hlrl hlri cL hlde
      rw [← hsrn] at htra htrl htri cT hsre
      have HQ:=Lib.hid (And.intro hldn (And.intro hsrn (And.intro hlra (And.intro htra (And.intro hlde hsre)))))
      clear hlra htra hla hta hldn hsrn hlde hsre hp2 hmid2 hs3 hh hj hlt hqi hql
      have hEnd : ∀ {L : List Nat} {b : St},L.Pairwise (· < ·)→(∀ y,st.f node y = true ↔ y ∈ L)→Joins (L.flatMap (vj S ldn srn)) st3 b→∃ L : List Nat,L.Pairwise (· < ·)∧(∀ z,st.f node z = true ↔ z ∈ L)∧Visit S node L st b:=fun {L b} hPw hL hJ => by
       refine ⟨L,hPw,hL,st2,by have:=H2.out.2.2.2.1; rw [HC.out.1,H1.out.2.2.2.2.1] at this; exact this,.inr ⟨hv,st3,by have:=H3.out.2.2.2.1; rw [HP.out.1] at this; exact this, ?_⟩⟩
       have e : (vj S ldn srn) = fun y => ((st.ld node).map fun c => (S.cell y c.f,c.b)) ++ ((st.sr node).map fun c => (c.a,S.cell y c.f)):=by
        funext y; rw [vj,HQ.out.1,HQ.out.2.1]
       rw [e] at hJ
       exact hJ
      have HE:=Lib.hid (And.intro @hEnd trivial)
      clear hEnd
      by_cases hemp : ldn.length = 0∧srn.length = 0
      ·obtain ⟨z1,z2⟩:=hemp
       rw [z1] at cL
       rw [z2] at cT
       go_wp2_with fail
       go_end0
       refine ⟨_,rl3,V3,st3,rfl,HE.out.1 HPL0.out HL0.out ?_,H3.out.1,H3.out.2.1⟩
       have e1 : ldn = []:=List.length_eq_zero_iff.1 z1
       have e2 : srn = []:=List.length_eq_zero_iff.1 z2
       rw [e1,e2]
       have : L0.flatMap (vj S [] []) = []:=by simp [vj]
       rw [this]; rfl
      ·have hor : ldn.length ≠ 0 ∨ (ldn.length = 0∧srn.length ≠ 0):=by omega
       clear hemp
       obtain ⟨nl,hnl⟩ : ∃ nl,nl = ldn.length:=⟨_,rfl⟩
       obtain ⟨ns,hns⟩ : ∃ ns,ns = srn.length:=⟨_,rfl⟩
       rw [← hnl] at cL hlri hlrl hor
       rw [← hns] at cT htri htrl hor
       have HN:=Lib.hid (And.intro hnl hns)
       clear hnl hns
       rcases hor with hb1 | ⟨hb1,hb2⟩
       ·have hb1' : ((nl : Int) == 0) = false:=by simp [hb1]
        clear hb1
        go_wp2_with fail
        refine (List_S H3.out.2.2.1).mono ?_
        rintro e W5 ⟨a5,c5,L,rfl,o5,mL,pL,lL,q5⟩
        have HPL:=Lib.hid pL
        clear pL
        have g5:=grownBy_below q5
        have hr5 : ∀ k,(Value.slice a5 L.length c5).ownBlock = some k→rl3 k = 0:=fun k hk => H3.out.1.fr k (o5.lt k hk).1
        have H5:=Lib.hid (And.intro (H3.out.1.keep g5) (And.intro (H3.out.2.1.trans (Ext.grown (rl:=rl3) g5)) (And.intro o5.lst hr5)))
        have HL:=Lib.hid (And.intro mL (And.intro lL (vj_lt HO.out HQ.out.1 HQ.out.2.1 mL)))
        have hix : ∀ (x : Int),0 ≤ x→x < L.length→∀ Z,(Instr.indexAt 32 (.slice a5 L.length c5) (.int .i64 x)).run Tryz.prog Z = .ok (.pointer (some ⟨blk a5,ofs a5 + x.toNat,none⟩)) Z:=by
         obtain ⟨a6,c6,he6, -,hidx6, -⟩:=o5.lst.out1 sInt
         simp only [Value.slice.injEq] at he6
         obtain ⟨rfl,he6,rfl⟩:=he6
         intro x h0 h1
         have:=hidx6 .i64 x h0 (by rw [← he6]; exact h1)
         rw [← he6] at this; exact this
        clear hr5 o5 mL q5 g5 c8 cL c9 cT
        go_wp2_with fail
        go_loopw [10,102] (fun _ x wr4 => ∃ (j : Nat) (rl4 : Nat→Nat) (V4 : Vals) (st4 : St),j ≤ L.length∧x = .int .i64 j∧Hid (Mem S w0 sv rl4 V4 st4 wr4∧Ext rl3 rl4 W5 wr4∧KJ V3 V4∧Joins ((L.take j).flatMap (vj S ldn srn)) st3 st4)) (fun _ x _ => L.length - (intOf x).toNat)
        case atStart => exact ⟨0,rl3,V3,st3,by omega,rfl,H5.out.1,Ext.refl _ _,KJ.refl _,rfl⟩
        case round =>
         obtain ⟨j,rl4,V4,st4,hj,rfl,hh⟩:=hrel
         by_cases hlt : j < L.length
         ·have hys : nth L j < S.sites:=HO.out.fb _ ((HL.out.1 _).2 (nth_mem L j hlt))
          have hlst:=lst_ext H5.out.2.2.1 hh.out.2.1 (fun _ k hk => .inl (H5.out.2.2.2 k hk))
          have hcl : wr.cell? ⟨blk a5,ofs a5 + j,none⟩ = some (.int .i64 ((nth L j : Nat) : Int)):=by
           obtain ⟨a6,c6,he6, -, -,hcell6, -⟩:=hlst.out1 sInt
           simp only [Value.slice.injEq] at he6
           obtain ⟨rfl, -,rfl⟩:=he6
           have:=hcell6 j (by simpa using hlt)
           rw [this]; simp [nth,hlt]
          have hld4 : st4.ld node = ldn:=by rw [hh.out.2.2.2.le.2.2.2.2.1]; exact HQ.out.2.2.2.2.1
          have hsr4 : st4.sr node = srn:=by rw [hh.out.2.2.2.le.2.2.2.2.2]; exact HQ.out.2.2.2.2.2
          have hlv4 : nth V4.lvs node = .slice lra ldn.length lrc:=by rw [hh.out.2.2.1.2.1]; exact HQ.out.2.2.1
          have hsv4 : nth V4.svs node = .slice tra srn.length trc:=by rw [hh.out.2.2.1.2.2]; exact HQ.out.2.2.2.1
          have hsv4':=hsv4
          obtain ⟨la4,lc4,hla4⟩:=hh.out.1.ldV
          have i7:=hh.out.1.ldIx hla4 hv
          obtain ⟨c8,cL, -⟩:=hh.out.1.ldAt hla4 hv
          rw [hlv4, ← HN.out.1] at cL
          have HY:=Lib.hid (And.intro hys (And.intro hlt (And.intro hld4 (And.intro hsr4 (And.intro hlv4 hsv4)))))
          have H4:=hh
          clear hys hlst hld4 hsr4 hlv4 hsv4 hsv4' hla4 hh
          obtain ⟨y,hy⟩ : ∃ y,y = nth L j:=⟨_,rfl⟩
          rw [← hy] at hcl HY
          have HYy:=Lib.hid (And.intro hy trivial)
          clear hy
          go_wp2_with fail
          clear c8 cL i7 hcl
          go_loopw [12,114] (fun _ x wr5 => ∃ (i : Nat) (rl5 : Nat→Nat) (V5 : Vals) (st5 : St),i ≤ nl∧x = .int .i64 i∧Hid (Mem S w0 sv rl5 V5 st5 wr5∧Ext rl3 rl5 W5 wr5∧KJ V4 V5∧Joins ((L.take j).flatMap (vj S ldn srn) ++ (ldn.take i).map fun c => (S.cell y c.f,c.b)) st3 st5)) (fun _ x _ => nl - (intOf x).toNat)
          case atStart => exact ⟨0,rl4,V4,st4,by omega,rfl,H4.out.1,H4.out.2.1,KJ.refl _,by simpa using H4.out.2.2.2⟩
          case round =>
           obtain ⟨i,rl5,V5,st5,hi,rfl,hh⟩:=hrel
           by_cases hlt2 : i < nl
           ·have hil : i < ldn.length:=by rw [← HN.out.1]; exact hlt2
            obtain ⟨za,zn,zc,e0,e1,e2,e3,e4⟩:=hh.out.1.ldCell (l:=ldn) (a:=lra) (c:=lrc) hv (by rw [hh.out.2.2.2.le.2.2.2.2.1]; exact HQ.out.2.2.2.2.1) (by rw [hh.out.2.2.1.2.1]; exact HY.out.2.2.2.2.1) i hil
            have hmid5:=H3.out.2.2.2.2.joins hh.out.2.2.2 fun e he => (HL.out.2.2 e (vj_sub1 HY.out.2.1 (by rw [← HYy.out.1]; exact he))).2
            have htd5:=hmid5.todoLe H1.out.2.2.2.2.2.2.2.2.2.2 HO.out.ns
            have hln:=vj_small (S:=S) (ld:=ldn) (sr:=srn) HL.out.2.1 (by rw [HQ.out.1]; exact HO.out.ldl) (by rw [HQ.out.2.1]; exact HO.out.srl) j
            have hcp5 : (st5.cp (S.cell y (nth ldn i).f)).length ≤ 100000000:=by
             have q1:=hmid5.cp (S.cell y (nth ldn i).f)
             have q2:=HO.out.cpl (S.cell y (nth ldn i).f)
             have q3 : ldn.length ≤ 300:=by rw [HQ.out.1]; exact HO.out.ldl
             rw [H1.out.2.2.2.2.2.2.1] at q1
             simp only [List.length_append,List.length_map,List.length_take] at q1
             omega
            have hok:=HO.out.ld (nth ldn i) (by rw [← HQ.out.1]; exact nth_mem _ _ hil)
            have hcN:=Syst.cell_lt HY.out.1 hok.2
            have hyt : (ldn.take (i + 1)).map (fun c => (S.cell y c.f,c.b)) = (ldn.take i).map (fun c => (S.cell y c.f,c.b)) ++ [(S.cell y (nth ldn i).f,(nth ldn i).b)]:=by rw [take_snoc _ _ hil]; simp
            have HK:=Lib.hid (And.intro htd5 (And.intro hcp5 (And.intro hcN (And.intro hok.1 (And.intro hyt hok.2)))))
            clear hmid5 htd5 hln hcp5 hcN hyt hil hok
            generalize nth ldn i = cc5 at *
            go_wp2_with fail
            have g9:=grownBy_alloc wr (.cells #[.int .i64 (cc5.k : Int),.int .i64 cc5.a,.int .i64 cc5.b,.int .i64 cc5.f,.slice za zn zc] 48)
            refine wp_gen (fun Z => Mem S w0 sv rl5 V5 st5 Z∧Ext rl5 rl5 wr Z∧BoxC Z wr.heap.size cc5.k cc5.a cc5.b cc5.f (.slice za zn zc)) ⟨hh.out.1.keep g9,Ext.grown g9,BoxC.new _ _ _ _ _ _ _⟩ ?_
            clear g9 e0 e1 e2 e3 e4
            rintro W9 ⟨m9,x9,d0,d1,d2,d3,d4⟩
            obtain ⟨bw,hbw⟩ : ∃ bw,bw = wr.heap.size:=⟨_,rfl⟩
            rw [← hbw] at d0 d1 d2 d3 d4 ⊢
            clear hbw
            have b0:=(m9.fld 0 (v:=.int .i64 (S.vars : Int)) rfl).1
            have b1:=(m9.fld 1 (v:=.int .i64 (S.sites : Int)) rfl).1
            have b2:=(m9.fld 2 (v:=.int .i64 (S.fields : Int)) rfl).1
            have b3:=(m9.fld 3 (v:=V5.cons) rfl).1
            have H9:=Lib.hid (And.intro m9 x9)
            clear m9 x9 d0 d4
            refine wp_region_mix [0,1,2,3,4,5,6,7,9,10] [8,11] (fun w' => w'.cell? ⟨sv,0,none⟩ = some (.int .i64 (S.vars : Int))∧w'.cell? ⟨sv,1,none⟩ = some (.int .i64 (S.sites : Int))∧w'.cell? ⟨sv,2,none⟩ = some (.int .i64 (S.fields : Int))∧w'.cell? ⟨sv,3,none⟩ = some V5.cons∧w'.cell? ⟨bw,1,none⟩ = some (.int .i64 (cc5.a : Int))∧w'.cell? ⟨bw,2,none⟩ = some (.int .i64 (cc5.b : Int))∧w'.cell? ⟨bw,3,none⟩ = some (.int .i64 (cc5.f : Int))) (by kernel_rfl) (by kernel_rfl) (by kernel_rfl) ⟨b0,b1,b2,b3,d1,d2,d3⟩ ?_
            repeat (
             refine wpHeads_cons (v:=?_) rfl (Or.inl ⟨by rfl, ?_⟩) ?_
             rotate_left
             ·(intro W hW; go_simp; try with_reducible rfl)
             simp only [Act.put,List.setIfInBounds_toArray])
            refine wpHeads_nil ?_
            refine wpTails_cons rfl ?_
            go_wp2_with fail
            obtain ⟨nn,hnn,hcl7⟩:=cell_is S y cc5.f V5.cons (W9.drew) hV hF (by have:=HY.out.1; omega) (by have:=HK.out.2.2.2.2.2; omega)
            refine hcl7.mono ?_
            rintro e W7 ⟨rfl,q7⟩
            have g7 : W9.grownBy W7 none:=grownBy_trans (grownBy_drew0 _) (grownBy_below q7)
            go_wp2_with fail
            refine tail_mk ⟨g7.cell b0 (by simp),g7.cell b1 (by simp),g7.cell b2 (by simp),g7.cell b3 (by simp),g7.cell d1 (by simp),g7.cell d2 (by simp),g7.cell d3 (by simp)⟩ ?_
            refine wpTails_one rfl ?_
            have HM7:=Lib.hid (And.intro (H9.out.1.keep g7) (And.intro (hh.out.2.1.trans (H9.out.2.trans (Ext.grown (rl:=rl5) g7))) hh.out.2.2))
            clear g7 q7 b0 b1 b2 b3 d1 d2 d3 hh
            subst hnn
            clear hcl7
            go_wp2_with fail
            refine (join_anyV HM7.out.1 (S.cell y cc5.f) (cc5.b) HK.out.2.2.1 HK.out.2.2.2.1 hN HK.out.1 HK.out.2.1).mono ?_
            rintro e W8 ⟨v8,rl8,V8,st8,rfl,hp,m8,e8,k8⟩
            have H8:=Lib.hid (And.intro m8 (And.intro (HM7.out.2.1.trans e8) (And.intro (HM7.out.2.2.1.trans k8) (Joins.snoc (e:=(S.cell y cc5.f,cc5.b)) HM7.out.2.2.2 hp))))
            clear hp m8 e8 k8
            go_wp2_with fail
            refine thenQ_mk ?_
            go_wp2_with fail
            go_roundw
            case rel => exact ⟨i + 1,rl8,V8,st8,by omega,by go_num,H8.out.1,H8.out.2.1,H8.out.2.2.1,by
             have h9:=H8.out.2.2.2
             rw [HK.out.2.2.2.2.1, ← List.append_assoc]; exact h9⟩
            case measure => simp [intOf]; omega
           ·obtain rfl : i = nl:=by omega
            have hJ4:=hh.out.2.2.2
            rw [HN.out.1,List.take_length] at hJ4
            have hsv5 : nth V5.svs node = .slice tra srn.length trc:=by rw [hh.out.2.2.1.2.2]; exact HY.out.2.2.2.2.2
            obtain ⟨ta5,tc5,hta5⟩:=hh.out.1.srV
            have i8:=hh.out.1.srIx hta5 hv
            obtain ⟨c9,cT, -⟩:=hh.out.1.srAt hta5 hv
            rw [hsv5, ← HN.out.2] at cT
            have H6:=Lib.hid (And.intro hh.out.1 (And.intro hh.out.2.1 (And.intro (H4.out.2.2.1.trans hh.out.2.2.1) (And.intro hJ4 hsv5))))
            clear hh hJ4 hsv5 hta5 hi hlt2
            go_wp2_with fail
            clear c9 cT i8
            go_loopw [14,139] (fun _ x wr6 => ∃ (i : Nat) (rl6 : Nat→Nat) (V6 : Vals) (st6 : St),i ≤ ns∧x = .int .i64 i∧Hid (Mem S w0 sv rl6 V6 st6 wr6∧Ext rl3 rl6 W5 wr6∧KJ V5 V6∧Joins (((L.take j).flatMap (vj S ldn srn) ++ ldn.map fun c => (S.cell y c.f,c.b)) ++ (srn.take i).map fun c => (c.a,S.cell y c.f)) st3 st6)) (fun _ x _ => ns - (intOf x).toNat)
            case atStart => exact ⟨0,rl5,V5,st5,by omega,rfl,H6.out.1,H6.out.2.1,KJ.refl _,by simpa using H6.out.2.2.2.1⟩
            case round =>
             obtain ⟨i,rl6,V6,st6,hi,rfl,hh⟩:=hrel
             by_cases hlt2 : i < ns
             ·have hil : i < srn.length:=by rw [← HN.out.2]; exact hlt2
              obtain ⟨za,zn,zc,e0,e1,e2,e3,e4⟩:=hh.out.1.srCell (l:=srn) (a:=tra) (c:=trc) hv (by rw [hh.out.2.2.2.le.2.2.2.2.2]; exact HQ.out.2.2.2.2.2) (by rw [hh.out.2.2.1.2.2]; exact H6.out.2.2.2.2) i hil
              have hmid5:=H3.out.2.2.2.2.joins hh.out.2.2.2 fun e he => (HL.out.2.2 e (vj_sub2 HY.out.2.1 (by rw [← HYy.out.1]; exact he))).2
              have htd5:=hmid5.todoLe H1.out.2.2.2.2.2.2.2.2.2.2 HO.out.ns
              have hln:=vj_small (S:=S) (ld:=ldn) (sr:=srn) HL.out.2.1 (by rw [HQ.out.1]; exact HO.out.ldl) (by rw [HQ.out.2.1]; exact HO.out.srl) j
              have hcp5 : (st6.cp (nth srn i).a).length ≤ 100000000:=by
               have q1:=hmid5.cp (nth srn i).a
               have q2:=HO.out.cpl (nth srn i).a
               have q3 : ldn.length ≤ 300:=by rw [HQ.out.1]; exact HO.out.ldl
               have q4 : srn.length ≤ 300:=by rw [HQ.out.2.1]; exact HO.out.srl
               rw [H1.out.2.2.2.2.2.2.1] at q1
               simp only [List.length_append,List.length_map,List.length_take] at q1
               omega
              have hok:=HO.out.sr (nth srn i) (by rw [← HQ.out.2.1]; exact nth_mem _ _ hil)
              have hcN:=Syst.cell_lt HY.out.1 hok.2
              have hyt : (srn.take (i + 1)).map (fun c => (c.a,S.cell y c.f)) = (srn.take i).map (fun c => (c.a,S.cell y c.f)) ++ [((nth srn i).a,S.cell y (nth srn i).f)]:=by rw [take_snoc _ _ hil]; simp
              have HK:=Lib.hid (And.intro htd5 (And.intro hcp5 (And.intro hcN (And.intro hok.1 (And.intro hyt hok.2)))))
              clear hmid5 htd5 hln hcp5 hcN hyt hil hok
              generalize nth srn i = cc5 at *
              go_wp2_with fail
              have g9:=grownBy_alloc wr (.cells #[.int .i64 (cc5.k : Int),.int .i64 cc5.a,.int .i64 cc5.b,.int .i64 cc5.f,.slice za zn zc] 48)
              refine wp_gen (fun Z => Mem S w0 sv rl6 V6 st6 Z∧Ext rl6 rl6 wr Z∧BoxC Z wr.heap.size cc5.k cc5.a cc5.b cc5.f (.slice za zn zc)) ⟨hh.out.1.keep g9,Ext.grown g9,BoxC.new _ _ _ _ _ _ _⟩ ?_
              clear g9 e0 e1 e2 e3 e4
              rintro W9 ⟨m9,x9,d0,d1,d2,d3,d4⟩
              obtain ⟨bw,hbw⟩ : ∃ bw,bw = wr.heap.size:=⟨_,rfl⟩
              rw [← hbw] at d0 d1 d2 d3 d4 ⊢
              clear hbw
              have b0:=(m9.fld 0 (v:=.int .i64 (S.vars : Int)) rfl).1
              have b1:=(m9.fld 1 (v:=.int .i64 (S.sites : Int)) rfl).1
              have b2:=(m9.fld 2 (v:=.int .i64 (S.fields : Int)) rfl).1
              have b3:=(m9.fld 3 (v:=V6.cons) rfl).1
              have H9:=Lib.hid (And.intro m9 x9)
              clear m9 x9 d0 d4
              refine wp_region_mix [0,1,2,3,4,5,6,7,8,9] [10,11] (fun w' => w'.cell? ⟨sv,0,none⟩ = some (.int .i64 (S.vars : Int))∧w'.cell? ⟨sv,1,none⟩ = some (.int .i64 (S.sites : Int))∧w'.cell? ⟨sv,2,none⟩ = some (.int .i64 (S.fields : Int))∧w'.cell? ⟨sv,3,none⟩ = some V6.cons∧w'.cell? ⟨bw,1,none⟩ = some (.int .i64 (cc5.a : Int))∧w'.cell? ⟨bw,2,none⟩ = some (.int .i64 (cc5.b : Int))∧w'.cell? ⟨bw,3,none⟩ = some (.int .i64 (cc5.f : Int))) (by kernel_rfl) (by kernel_rfl) (by kernel_rfl) ⟨b0,b1,b2,b3,d1,d2,d3⟩ ?_
              repeat (
               refine wpHeads_cons (v:=?_) rfl (Or.inl ⟨by rfl, ?_⟩) ?_
               rotate_left
               ·(intro W hW; go_simp; try with_reducible rfl)
               simp only [Act.put,List.setIfInBounds_toArray])
              refine wpHeads_nil ?_
              refine wpTails_cons rfl ?_
              go_wp2_with fail
              obtain ⟨nn,hnn,hcl7⟩:=cell_is S y cc5.f V6.cons (W9.drew) hV hF (by have:=HY.out.1; omega) (by have:=HK.out.2.2.2.2.2; omega)
              refine hcl7.mono ?_
              rintro e W7 ⟨rfl,q7⟩
              have g7 : W9.grownBy W7 none:=grownBy_trans (grownBy_drew0 _) (grownBy_below q7)
              go_wp2_with fail
              refine tail_mk ⟨g7.cell b0 (by simp),g7.cell b1 (by simp),g7.cell b2 (by simp),g7.cell b3 (by simp),g7.cell d1 (by simp),g7.cell d2 (by simp),g7.cell d3 (by simp)⟩ ?_
              refine wpTails_one rfl ?_
              have HM7:=Lib.hid (And.intro (H9.out.1.keep g7) (And.intro (hh.out.2.1.trans (H9.out.2.trans (Ext.grown (rl:=rl6) g7))) hh.out.2.2))
              clear g7 q7 b0 b1 b2 b3 d1 d2 d3 hh
              subst hnn
              clear hcl7
              go_wp2_with fail
              refine (join_anyV HM7.out.1 (cc5.a) (S.cell y cc5.f) HK.out.2.2.2.1 HK.out.2.2.1 hN HK.out.1 HK.out.2.1).mono ?_
              rintro e W8 ⟨v8,rl8,V8,st8,rfl,hp,m8,e8,k8⟩
              have H8:=Lib.hid (And.intro m8 (And.intro (HM7.out.2.1.trans e8) (And.intro (HM7.out.2.2.1.trans k8) (Joins.snoc (e:=(cc5.a,S.cell y cc5.f)) HM7.out.2.2.2 hp))))
              clear hp m8 e8 k8
              go_wp2_with fail
              refine thenQ_mk ?_
              go_wp2_with fail
              go_roundw
              case rel => exact ⟨i + 1,rl8,V8,st8,by omega,by go_num,H8.out.1,H8.out.2.1,H8.out.2.2.1,by
               have h9:=H8.out.2.2.2
               rw [HK.out.2.2.2.2.1, ← List.append_assoc]; exact h9⟩
              case measure => simp [intOf]; omega
             ·obtain rfl : i = ns:=by omega
              have hJ5:=hh.out.2.2.2
              rw [HN.out.2,List.take_length,List.append_assoc] at hJ5
              have hJ6 : Joins ((L.take (j + 1)).flatMap (vj S ldn srn)) st3 st6:=by
               rw [take_snoc _ _ HY.out.2.1,List.flatMap_append, ← HYy.out.1]
               simpa [vj] using hJ5
              have H7:=Lib.hid (And.intro hh.out.1 (And.intro hh.out.2.1 (And.intro (H6.out.2.2.1.trans hh.out.2.2.1) hJ6)))
              clear hh hJ5 hJ6
              go_wp2_with fail
              go_roundw
              case rel => exact ⟨j + 1,rl6,V6,st6,by have:=HY.out.2.1; omega,by go_num,H7.out⟩
              case measure => have:=HY.out.2.1; simp [intOf]; omega
         ·obtain rfl : j = L.length:=by omega
          have hJ5:=hh.out.2.2.2
          rw [List.take_length] at hJ5
          have H7:=Lib.hid (And.intro hh.out.1 (And.intro (H5.out.2.1.trans hh.out.2.1) hJ5))
          clear hh hJ5
          go_wp2_with fail
          go_end0
          exact ⟨_,rl4,V4,st4,rfl,HE.out.1 HPL.out HL.out.1 H7.out.2.2,H7.out.1,H7.out.2.1⟩
       ·have hb1' : ((nl : Int) == 0) = true:=by simp [hb1]
        have hb2' : ((ns : Int) == 0) = false:=by simp [hb2]
        clear hb1 hb2
        go_wp2_with fail
        refine (List_S H3.out.2.2.1).mono ?_
        rintro e W5 ⟨a5,c5,L,rfl,o5,mL,pL,lL,q5⟩
        have HPL:=Lib.hid pL
        clear pL
        have g5:=grownBy_below q5
        have hr5 : ∀ k,(Value.slice a5 L.length c5).ownBlock = some k→rl3 k = 0:=fun k hk => H3.out.1.fr k (o5.lt k hk).1
        have H5:=Lib.hid (And.intro (H3.out.1.keep g5) (And.intro (H3.out.2.1.trans (Ext.grown (rl:=rl3) g5)) (And.intro o5.lst hr5)))
        have HL:=Lib.hid (And.intro mL (And.intro lL (vj_lt HO.out HQ.out.1 HQ.out.2.1 mL)))
        have hix : ∀ (x : Int),0 ≤ x→x < L.length→∀ Z,(Instr.indexAt 32 (.slice a5 L.length c5) (.int .i64 x)).run Tryz.prog Z = .ok (.pointer (some ⟨blk a5,ofs a5 + x.toNat,none⟩)) Z:=by
         obtain ⟨a6,c6,he6, -,hidx6, -⟩:=o5.lst.out1 sInt
         simp only [Value.slice.injEq] at he6
         obtain ⟨rfl,he6,rfl⟩:=he6
         intro x h0 h1
         have:=hidx6 .i64 x h0 (by rw [← he6]; exact h1)
         rw [← he6] at this; exact this
        clear hr5 o5 mL q5 g5 c8 cL c9 cT
        go_wp2_with fail
        go_loopw [10,102] (fun _ x wr4 => ∃ (j : Nat) (rl4 : Nat→Nat) (V4 : Vals) (st4 : St),j ≤ L.length∧x = .int .i64 j∧Hid (Mem S w0 sv rl4 V4 st4 wr4∧Ext rl3 rl4 W5 wr4∧KJ V3 V4∧Joins ((L.take j).flatMap (vj S ldn srn)) st3 st4)) (fun _ x _ => L.length - (intOf x).toNat)
        case atStart => exact ⟨0,rl3,V3,st3,by omega,rfl,H5.out.1,Ext.refl _ _,KJ.refl _,rfl⟩
        case round =>
         obtain ⟨j,rl4,V4,st4,hj,rfl,hh⟩:=hrel
         by_cases hlt : j < L.length
         ·have hys : nth L j < S.sites:=HO.out.fb _ ((HL.out.1 _).2 (nth_mem L j hlt))
          have hlst:=lst_ext H5.out.2.2.1 hh.out.2.1 (fun _ k hk => .inl (H5.out.2.2.2 k hk))
          have hcl : wr.cell? ⟨blk a5,ofs a5 + j,none⟩ = some (.int .i64 ((nth L j : Nat) : Int)):=by
           obtain ⟨a6,c6,he6, -, -,hcell6, -⟩:=hlst.out1 sInt
           simp only [Value.slice.injEq] at he6
           obtain ⟨rfl, -,rfl⟩:=he6
           have:=hcell6 j (by simpa using hlt)
           rw [this]; simp [nth,hlt]
          have hld4 : st4.ld node = ldn:=by rw [hh.out.2.2.2.le.2.2.2.2.1]; exact HQ.out.2.2.2.2.1
          have hsr4 : st4.sr node = srn:=by rw [hh.out.2.2.2.le.2.2.2.2.2]; exact HQ.out.2.2.2.2.2
          have hlv4 : nth V4.lvs node = .slice lra ldn.length lrc:=by rw [hh.out.2.2.1.2.1]; exact HQ.out.2.2.1
          have hsv4 : nth V4.svs node = .slice tra srn.length trc:=by rw [hh.out.2.2.1.2.2]; exact HQ.out.2.2.2.1
          have hsv4':=hsv4
          obtain ⟨la4,lc4,hla4⟩:=hh.out.1.ldV
          have i7:=hh.out.1.ldIx hla4 hv
          obtain ⟨c8,cL, -⟩:=hh.out.1.ldAt hla4 hv
          rw [hlv4, ← HN.out.1] at cL
          have HY:=Lib.hid (And.intro hys (And.intro hlt (And.intro hld4 (And.intro hsr4 (And.intro hlv4 hsv4)))))
          have H4:=hh
          clear hys hlst hld4 hsr4 hlv4 hsv4 hsv4' hla4 hh
          obtain ⟨y,hy⟩ : ∃ y,y = nth L j:=⟨_,rfl⟩
          rw [← hy] at hcl HY
          have HYy:=Lib.hid (And.intro hy trivial)
          clear hy
          go_wp2_with fail
          clear c8 cL i7 hcl
          go_loopw [12,114] (fun _ x wr5 => ∃ (i : Nat) (rl5 : Nat→Nat) (V5 : Vals) (st5 : St),i ≤ nl∧x = .int .i64 i∧Hid (Mem S w0 sv rl5 V5 st5 wr5∧Ext rl3 rl5 W5 wr5∧KJ V4 V5∧Joins ((L.take j).flatMap (vj S ldn srn) ++ (ldn.take i).map fun c => (S.cell y c.f,c.b)) st3 st5)) (fun _ x _ => nl - (intOf x).toNat)
          case atStart => exact ⟨0,rl4,V4,st4,by omega,rfl,H4.out.1,H4.out.2.1,KJ.refl _,by simpa using H4.out.2.2.2⟩
          case round =>
           obtain ⟨i,rl5,V5,st5,hi,rfl,hh⟩:=hrel
           by_cases hlt2 : i < nl
           ·have hil : i < ldn.length:=by rw [← HN.out.1]; exact hlt2
            obtain ⟨za,zn,zc,e0,e1,e2,e3,e4⟩:=hh.out.1.ldCell (l:=ldn) (a:=lra) (c:=lrc) hv (by rw [hh.out.2.2.2.le.2.2.2.2.1]; exact HQ.out.2.2.2.2.1) (by rw [hh.out.2.2.1.2.1]; exact HY.out.2.2.2.2.1) i hil
            have hmid5:=H3.out.2.2.2.2.joins hh.out.2.2.2 fun e he => (HL.out.2.2 e (vj_sub1 HY.out.2.1 (by rw [← HYy.out.1]; exact he))).2
            have htd5:=hmid5.todoLe H1.out.2.2.2.2.2.2.2.2.2.2 HO.out.ns
            have hln:=vj_small (S:=S) (ld:=ldn) (sr:=srn) HL.out.2.1 (by rw [HQ.out.1]; exact HO.out.ldl) (by rw [HQ.out.2.1]; exact HO.out.srl) j
            have hcp5 : (st5.cp (S.cell y (nth ldn i).f)).length ≤ 100000000:=by
             have q1:=hmid5.cp (S.cell y (nth ldn i).f)
             have q2:=HO.out.cpl (S.cell y (nth ldn i).f)
             have q3 : ldn.length ≤ 300:=by rw [HQ.out.1]; exact HO.out.ldl
             rw [H1.out.2.2.2.2.2.2.1] at q1
             simp only [List.length_append,List.length_map,List.length_take] at q1
             omega
            have hok:=HO.out.ld (nth ldn i) (by rw [← HQ.out.1]; exact nth_mem _ _ hil)
            have hcN:=Syst.cell_lt HY.out.1 hok.2
            have hyt : (ldn.take (i + 1)).map (fun c => (S.cell y c.f,c.b)) = (ldn.take i).map (fun c => (S.cell y c.f,c.b)) ++ [(S.cell y (nth ldn i).f,(nth ldn i).b)]:=by rw [take_snoc _ _ hil]; simp
            have HK:=Lib.hid (And.intro htd5 (And.intro hcp5 (And.intro hcN (And.intro hok.1 (And.intro hyt hok.2)))))
            clear hmid5 htd5 hln hcp5 hcN hyt hil hok
            generalize nth ldn i = cc5 at *
            go_wp2_with fail
            have g9:=grownBy_alloc wr (.cells #[.int .i64 (cc5.k : Int),.int .i64 cc5.a,.int .i64 cc5.b,.int .i64 cc5.f,.slice za zn zc] 48)
            refine wp_gen (fun Z => Mem S w0 sv rl5 V5 st5 Z∧Ext rl5 rl5 wr Z∧BoxC Z wr.heap.size cc5.k cc5.a cc5.b cc5.f (.slice za zn zc)) ⟨hh.out.1.keep g9,Ext.grown g9,BoxC.new _ _ _ _ _ _ _⟩ ?_
            clear g9 e0 e1 e2 e3 e4
            rintro W9 ⟨m9,x9,d0,d1,d2,d3,d4⟩
            obtain ⟨bw,hbw⟩ : ∃ bw,bw = wr.heap.size:=⟨_,rfl⟩
            rw [← hbw] at d0 d1 d2 d3 d4 ⊢
            clear hbw
            have b0:=(m9.fld 0 (v:=.int .i64 (S.vars : Int)) rfl).1
            have b1:=(m9.fld 1 (v:=.int .i64 (S.sites : Int)) rfl).1
            have b2:=(m9.fld 2 (v:=.int .i64 (S.fields : Int)) rfl).1
            have b3:=(m9.fld 3 (v:=V5.cons) rfl).1
            have H9:=Lib.hid (And.intro m9 x9)
            clear m9 x9 d0 d4
            refine wp_region_mix [0,1,2,3,4,5,6,7,9,10] [8,11] (fun w' => w'.cell? ⟨sv,0,none⟩ = some (.int .i64 (S.vars : Int))∧w'.cell? ⟨sv,1,none⟩ = some (.int .i64 (S.sites : Int))∧w'.cell? ⟨sv,2,none⟩ = some (.int .i64 (S.fields : Int))∧w'.cell? ⟨sv,3,none⟩ = some V5.cons∧w'.cell? ⟨bw,1,none⟩ = some (.int .i64 (cc5.a : Int))∧w'.cell? ⟨bw,2,none⟩ = some (.int .i64 (cc5.b : Int))∧w'.cell? ⟨bw,3,none⟩ = some (.int .i64 (cc5.f : Int))) (by kernel_rfl) (by kernel_rfl) (by kernel_rfl) ⟨b0,b1,b2,b3,d1,d2,d3⟩ ?_
            repeat (
             refine wpHeads_cons (v:=?_) rfl (Or.inl ⟨by rfl, ?_⟩) ?_
             rotate_left
             ·(intro W hW; go_simp; try with_reducible rfl)
             simp only [Act.put,List.setIfInBounds_toArray])
            refine wpHeads_nil ?_
            refine wpTails_cons rfl ?_
            go_wp2_with fail
            obtain ⟨nn,hnn,hcl7⟩:=cell_is S y cc5.f V5.cons (W9.drew) hV hF (by have:=HY.out.1; omega) (by have:=HK.out.2.2.2.2.2; omega)
            refine hcl7.mono ?_
            rintro e W7 ⟨rfl,q7⟩
            have g7 : W9.grownBy W7 none:=grownBy_trans (grownBy_drew0 _) (grownBy_below q7)
            go_wp2_with fail
            refine tail_mk ⟨g7.cell b0 (by simp),g7.cell b1 (by simp),g7.cell b2 (by simp),g7.cell b3 (by simp),g7.cell d1 (by simp),g7.cell d2 (by simp),g7.cell d3 (by simp)⟩ ?_
            refine wpTails_one rfl ?_
            have HM7:=Lib.hid (And.intro (H9.out.1.keep g7) (And.intro (hh.out.2.1.trans (H9.out.2.trans (Ext.grown (rl:=rl5) g7))) hh.out.2.2))
            clear g7 q7 b0 b1 b2 b3 d1 d2 d3 hh
            subst hnn
            clear hcl7
            go_wp2_with fail
            refine (join_anyV HM7.out.1 (S.cell y cc5.f) (cc5.b) HK.out.2.2.1 HK.out.2.2.2.1 hN HK.out.1 HK.out.2.1).mono ?_
            rintro e W8 ⟨v8,rl8,V8,st8,rfl,hp,m8,e8,k8⟩
            have H8:=Lib.hid (And.intro m8 (And.intro (HM7.out.2.1.trans e8) (And.intro (HM7.out.2.2.1.trans k8) (Joins.snoc (e:=(S.cell y cc5.f,cc5.b)) HM7.out.2.2.2 hp))))
            clear hp m8 e8 k8
            go_wp2_with fail
            refine thenQ_mk ?_
            go_wp2_with fail
            go_roundw
            case rel => exact ⟨i + 1,rl8,V8,st8,by omega,by go_num,H8.out.1,H8.out.2.1,H8.out.2.2.1,by
             have h9:=H8.out.2.2.2
             rw [HK.out.2.2.2.2.1, ← List.append_assoc]; exact h9⟩
            case measure => simp [intOf]; omega
           ·obtain rfl : i = nl:=by omega
            have hJ4:=hh.out.2.2.2
            rw [HN.out.1,List.take_length] at hJ4
            have hsv5 : nth V5.svs node = .slice tra srn.length trc:=by rw [hh.out.2.2.1.2.2]; exact HY.out.2.2.2.2.2
            obtain ⟨ta5,tc5,hta5⟩:=hh.out.1.srV
            have i8:=hh.out.1.srIx hta5 hv
            obtain ⟨c9,cT, -⟩:=hh.out.1.srAt hta5 hv
            rw [hsv5, ← HN.out.2] at cT
            have H6:=Lib.hid (And.intro hh.out.1 (And.intro hh.out.2.1 (And.intro (H4.out.2.2.1.trans hh.out.2.2.1) (And.intro hJ4 hsv5))))
            clear hh hJ4 hsv5 hta5 hi hlt2
            go_wp2_with fail
            clear c9 cT i8
            go_loopw [14,139] (fun _ x wr6 => ∃ (i : Nat) (rl6 : Nat→Nat) (V6 : Vals) (st6 : St),i ≤ ns∧x = .int .i64 i∧Hid (Mem S w0 sv rl6 V6 st6 wr6∧Ext rl3 rl6 W5 wr6∧KJ V5 V6∧Joins (((L.take j).flatMap (vj S ldn srn) ++ ldn.map fun c => (S.cell y c.f,c.b)) ++ (srn.take i).map fun c => (c.a,S.cell y c.f)) st3 st6)) (fun _ x _ => ns - (intOf x).toNat)
            case atStart => exact ⟨0,rl5,V5,st5,by omega,rfl,H6.out.1,H6.out.2.1,KJ.refl _,by simpa using H6.out.2.2.2.1⟩
            case round =>
             obtain ⟨i,rl6,V6,st6,hi,rfl,hh⟩:=hrel
             by_cases hlt2 : i < ns
             ·have hil : i < srn.length:=by rw [← HN.out.2]; exact hlt2
              obtain ⟨za,zn,zc,e0,e1,e2,e3,e4⟩:=hh.out.1.srCell (l:=srn) (a:=tra) (c:=trc) hv (by rw [hh.out.2.2.2.le.2.2.2.2.2]; exact HQ.out.2.2.2.2.2) (by rw [hh.out.2.2.1.2.2]; exact H6.out.2.2.2.2) i hil
              have hmid5:=H3.out.2.2.2.2.joins hh.out.2.2.2 fun e he => (HL.out.2.2 e (vj_sub2 HY.out.2.1 (by rw [← HYy.out.1]; exact he))).2
              have htd5:=hmid5.todoLe H1.out.2.2.2.2.2.2.2.2.2.2 HO.out.ns
              have hln:=vj_small (S:=S) (ld:=ldn) (sr:=srn) HL.out.2.1 (by rw [HQ.out.1]; exact HO.out.ldl) (by rw [HQ.out.2.1]; exact HO.out.srl) j
              have hcp5 : (st6.cp (nth srn i).a).length ≤ 100000000:=by
               have q1:=hmid5.cp (nth srn i).a
               have q2:=HO.out.cpl (nth srn i).a
               have q3 : ldn.length ≤ 300:=by rw [HQ.out.1]; exact HO.out.ldl
               have q4 : srn.length ≤ 300:=by rw [HQ.out.2.1]; exact HO.out.srl
               rw [H1.out.2.2.2.2.2.2.1] at q1
               simp only [List.length_append,List.length_map,List.length_take] at q1
               omega
              have hok:=HO.out.sr (nth srn i) (by rw [← HQ.out.2.1]; exact nth_mem _ _ hil)
              have hcN:=Syst.cell_lt HY.out.1 hok.2
              have hyt : (srn.take (i + 1)).map (fun c => (c.a,S.cell y c.f)) = (srn.take i).map (fun c => (c.a,S.cell y c.f)) ++ [((nth srn i).a,S.cell y (nth srn i).f)]:=by rw [take_snoc _ _ hil]; simp
              have HK:=Lib.hid (And.intro htd5 (And.intro hcp5 (And.intro hcN (And.intro hok.1 (And.intro hyt hok.2)))))
              clear hmid5 htd5 hln hcp5 hcN hyt hil hok
              generalize nth srn i = cc5 at *
              go_wp2_with fail
              have g9:=grownBy_alloc wr (.cells #[.int .i64 (cc5.k : Int),.int .i64 cc5.a,.int .i64 cc5.b,.int .i64 cc5.f,.slice za zn zc] 48)
              refine wp_gen (fun Z => Mem S w0 sv rl6 V6 st6 Z∧Ext rl6 rl6 wr Z∧BoxC Z wr.heap.size cc5.k cc5.a cc5.b cc5.f (.slice za zn zc)) ⟨hh.out.1.keep g9,Ext.grown g9,BoxC.new _ _ _ _ _ _ _⟩ ?_
              clear g9 e0 e1 e2 e3 e4
              rintro W9 ⟨m9,x9,d0,d1,d2,d3,d4⟩
              obtain ⟨bw,hbw⟩ : ∃ bw,bw = wr.heap.size:=⟨_,rfl⟩
              rw [← hbw] at d0 d1 d2 d3 d4 ⊢
              clear hbw
              have b0:=(m9.fld 0 (v:=.int .i64 (S.vars : Int)) rfl).1
              have b1:=(m9.fld 1 (v:=.int .i64 (S.sites : Int)) rfl).1
              have b2:=(m9.fld 2 (v:=.int .i64 (S.fields : Int)) rfl).1
              have b3:=(m9.fld 3 (v:=V6.cons) rfl).1
              have H9:=Lib.hid (And.intro m9 x9)
              clear m9 x9 d0 d4
              refine wp_region_mix [0,1,2,3,4,5,6,7,8,9] [10,11] (fun w' => w'.cell? ⟨sv,0,none⟩ = some (.int .i64 (S.vars : Int))∧w'.cell? ⟨sv,1,none⟩ = some (.int .i64 (S.sites : Int))∧w'.cell? ⟨sv,2,none⟩ = some (.int .i64 (S.fields : Int))∧w'.cell? ⟨sv,3,none⟩ = some V6.cons∧w'.cell? ⟨bw,1,none⟩ = some (.int .i64 (cc5.a : Int))∧w'.cell? ⟨bw,2,none⟩ = some (.int .i64 (cc5.b : Int))∧w'.cell? ⟨bw,3,none⟩ = some (.int .i64 (cc5.f : Int))) (by kernel_rfl) (by kernel_rfl) (by kernel_rfl) ⟨b0,b1,b2,b3,d1,d2,d3⟩ ?_
              repeat (
               refine wpHeads_cons (v:=?_) rfl (Or.inl ⟨by rfl, ?_⟩) ?_
               rotate_left
               ·(intro W hW; go_simp; try with_reducible rfl)
               simp only [Act.put,List.setIfInBounds_toArray])
              refine wpHeads_nil ?_
              refine wpTails_cons rfl ?_
              go_wp2_with fail
              obtain ⟨nn,hnn,hcl7⟩:=cell_is S y cc5.f V6.cons (W9.drew) hV hF (by have:=HY.out.1; omega) (by have:=HK.out.2.2.2.2.2; omega)
              refine hcl7.mono ?_
              rintro e W7 ⟨rfl,q7⟩
              have g7 : W9.grownBy W7 none:=grownBy_trans (grownBy_drew0 _) (grownBy_below q7)
              go_wp2_with fail
              refine tail_mk ⟨g7.cell b0 (by simp),g7.cell b1 (by simp),g7.cell b2 (by simp),g7.cell b3 (by simp),g7.cell d1 (by simp),g7.cell d2 (by simp),g7.cell d3 (by simp)⟩ ?_
              refine wpTails_one rfl ?_
              have HM7:=Lib.hid (And.intro (H9.out.1.keep g7) (And.intro (hh.out.2.1.trans (H9.out.2.trans (Ext.grown (rl:=rl6) g7))) hh.out.2.2))
              clear g7 q7 b0 b1 b2 b3 d1 d2 d3 hh
              subst hnn
              clear hcl7
              go_wp2_with fail
              refine (join_anyV HM7.out.1 (cc5.a) (S.cell y cc5.f) HK.out.2.2.2.1 HK.out.2.2.1 hN HK.out.1 HK.out.2.1).mono ?_
              rintro e W8 ⟨v8,rl8,V8,st8,rfl,hp,m8,e8,k8⟩
              have H8:=Lib.hid (And.intro m8 (And.intro (HM7.out.2.1.trans e8) (And.intro (HM7.out.2.2.1.trans k8) (Joins.snoc (e:=(cc5.a,S.cell y cc5.f)) HM7.out.2.2.2 hp))))
              clear hp m8 e8 k8
              go_wp2_with fail
              refine thenQ_mk ?_
              go_wp2_with fail
              go_roundw
              case rel => exact ⟨i + 1,rl8,V8,st8,by omega,by go_num,H8.out.1,H8.out.2.1,H8.out.2.2.1,by
               have h9:=H8.out.2.2.2
               rw [HK.out.2.2.2.2.1, ← List.append_assoc]; exact h9⟩
              case measure => simp [intOf]; omega
             ·obtain rfl : i = ns:=by omega
              have hJ5:=hh.out.2.2.2
              rw [HN.out.2,List.take_length,List.append_assoc] at hJ5
              have hJ6 : Joins ((L.take (j + 1)).flatMap (vj S ldn srn)) st3 st6:=by
               rw [take_snoc _ _ HY.out.2.1,List.flatMap_append, ← HYy.out.1]
               simpa [vj] using hJ5
              have H7:=Lib.hid (And.intro hh.out.1 (And.intro hh.out.2.1 (And.intro (H6.out.2.2.1.trans hh.out.2.2.1) hJ6)))
              clear hh hJ5 hJ6
              go_wp2_with fail
              go_roundw
              case rel => exact ⟨j + 1,rl6,V6,st6,by have:=HY.out.2.1; omega,by go_num,H7.out⟩
              case measure => have:=HY.out.2.1; simp [intOf]; omega
         ·obtain rfl : j = L.length:=by omega
          have hJ5:=hh.out.2.2.2
          rw [List.take_length] at hJ5
          have H7:=Lib.hid (And.intro hh.out.1 (And.intro (H5.out.2.1.trans hh.out.2.1) hJ5))
          clear hh hJ5
          go_wp2_with fail
          go_end0
          exact ⟨_,rl4,V4,st4,rfl,HE.out.1 HPL.out HL.out.1 H7.out.2.2,H7.out.1,H7.out.2.1⟩
   ·go_wp2_with fail
    go_end0
    exact ⟨_,rl2,V2,st2,rfl,⟨L0,HPL0.out,HL0.out,st2,by have:=H2.out.2.2.2.1; rw [HC.out.1,H1.out.2.2.2.2.1] at this; exact this,.inl ⟨by omega,rfl⟩⟩,H2.out.1,H2.out.2.1⟩
end Go.Proofs.YtgblfjccccdidaaGreat
end
section
namespace Go.And
theorem sorted_len : ∀ {L : List Nat} {lo n : Nat},L.Pairwise (· < ·)→(∀ x ∈ L,lo ≤ x∧x < n)→L.length + lo ≤ n ∨ L = []
 | [],_,_,_,_ => .inr rfl
 | x :: L,lo,n,hp,h => by
   rw [List.pairwise_cons] at hp
   have hx:=h x (by simp)
   rcases sorted_len (lo:=x + 1) (n:=n) hp.2 (fun y hy => ⟨hp.1 y hy,(h y (by simp [hy])).2⟩) with h1 | h1
   ·left; simp; omega
   ·subst h1; left; simp; omega
theorem sorted_len' {L : List Nat} {n : Nat} (hp : L.Pairwise (· < ·)) (h : ∀ x ∈ L,x < n) : L.length ≤ n:=by
 rcases sorted_len (lo:=0) hp (fun x hx => ⟨Nat.zero_le _,h x hx⟩) with h1 | h1
 ·omega
 ·subst h1; simp
structure Bnd (S : Syst) : Prop where
 vars : S.vars ≤ 40
 sites : S.sites ≤ 12
 fields : S.fields ≤ 5
 cons : S.cons.length ≤ 101
theorem Bnd.N {S : Syst} (h : Bnd S) : S.N ≤ 100:=by
 unfold Syst.N
 have:=Nat.mul_le_mul h.sites h.fields
 have:=h.vars
 omega
theorem Bnd.NS {S : Syst} (h : Bnd S) : S.N * S.sites ≤ 1200:=Nat.mul_le_mul h.N h.sites
structure P1 (S : Syst) (j : Nat) (st : St) : Prop where
 inv : Inv S (S.cons.take j) st No No No []
 todo : st.todo.length ≤ mass S st
 cp : ∀ i,(st.cp i).length ≤ j * 13
 ld : ∀ i,(st.ld i).length ≤ j
 sr : ∀ i,(st.sr i).length ≤ j
 pt : ∀ i,(st.pt i).length ≤ j
def st0 : St:=⟨fun _ _ => false,fun _ _ => false,fun _ => [],fun _ => [],fun _ => [],fun _ => [],fun _ => false, []⟩
theorem P1.start (S : Syst) : P1 S 0 st0:=⟨by rw [List.take_zero]; exact Inv.start S,by simp [st0],fun _ => by simp [st0],fun _ => by simp [st0],fun _ => by simp [st0],fun _ => by simp [st0]⟩
theorem upd_len {α : Type} (g : Nat→List α) (i : Nat) (x : α) (j : Nat) : (upd g i (g i ++ [x]) j).length ≤ (g j).length + 1:=by
 unfold upd; split
 ·rename_i e; subst e; simp
 ·omega
theorem take_next {S : Syst} {j : Nat} (hj : j < S.cons.length) : S.cons.take (j + 1) = S.cons.take j ++ [Go.Dfl.nth S.cons j]:=Go.Dfl.take_snoc _ _ hj
section
variable {S : Syst} {j : Nat} {a b : St}
theorem P1.bnd (h : P1 S j a) (hS : S.Ok) : ∀ i x,a.p i x = true→x < S.sites:=fun i x hx => (pts_bound hS (h.inv.snd i x hx)).2
theorem P1.again (h : P1 S j a) (hj : j < S.cons.length) {d : C} (hd : d ∈ S.cons.take j) (hk : (Go.Dfl.nth S.cons j).k = d.k) (ha : (Go.Dfl.nth S.cons j).a = d.a) (hb : (Go.Dfl.nth S.cons j).b = d.b) (hf : (Go.Dfl.nth S.cons j).f = d.f) (h5 : (Go.Dfl.nth S.cons j).k ≠ 5) : P1 S (j + 1) a:=by
 refine ⟨?_,h.todo,fun i => by have:=h.cp i; omega,fun i => by have:=h.ld i; omega,fun i => by have:=h.sr i; omega,fun i => by have:=h.pt i; omega⟩
 rw [take_next hj]; exact h.inv.again hd hk ha hb hf h5
theorem P1.addr (h : P1 S j a) (hS : S.Ok) (hj : j < S.cons.length) (hk : (Go.Dfl.nth S.cons j).k = 1) {s : Nat→Bool} (hs : ∀ x,s x = true ↔ x = (Go.Dfl.nth S.cons j).a) (hp : Put (Go.Dfl.nth S.cons j).b s a b) : P1 S (j + 1) b:=by
 have hc : Go.Dfl.nth S.cons j ∈ S.cons:=Go.Dfl.nth_mem _ _ hj
 have ok:=hS _ hc
 have l:=hp.le
 have hm:=hp.mass (S:=S) (vN ok.b) (fun x hx => by
  have:=ok.a; rw [if_pos hk] at this; rw [hs] at hx; omega)
 refine ⟨?_,by have:=h.todo; omega,fun i => by rw [l.2.2.1]; have:=h.cp i; omega,fun i => by rw [l.2.2.2.2.1]; have:=h.ld i; omega,fun i => by rw [l.2.2.2.2.2]; have:=h.sr i; omega,fun i => by rw [l.2.2.2.1]; have:=h.pt i; omega⟩
 rw [take_next hj]; exact h.inv.addr hS hc hk hs hp
theorem P1.copy (h : P1 S j a) (hS : S.Ok) (hj : j < S.cons.length) (hk : (Go.Dfl.nth S.cons j).k = 2) (hp : Join (Go.Dfl.nth S.cons j).a (Go.Dfl.nth S.cons j).b a b) : P1 S (j + 1) b:=by
 have hc : Go.Dfl.nth S.cons j ∈ S.cons:=Go.Dfl.nth_mem _ _ hj
 have ok:=hS _ hc
 have l:=hp.le
 have hm:=hp.mass (S:=S) (vN ok.b) (fun x hx => h.bnd hS _ x hx)
 refine ⟨?_,by have:=h.todo; omega,fun i => by have:=hp.len i; have:=h.cp i; omega,fun i => by rw [l.2.2.2.2.1]; have:=h.ld i; omega,fun i => by rw [l.2.2.2.2.2]; have:=h.sr i; omega,fun i => by rw [l.2.2.2.1]; have:=h.pt i; omega⟩
 rw [take_next hj]; exact h.inv.copy hS hc hk hp
theorem P1.load (h : P1 S j a) (hS : S.Ok) (hB : Bnd S) (hj : j < S.cons.length) (hk : (Go.Dfl.nth S.cons j).k = 3) {L : List Nat} (hp : L.Pairwise (· < ·)) (hL : ∀ y,a.p (Go.Dfl.nth S.cons j).a y = true ↔ y ∈ L)
  (hJ : Joins (L.map fun y => (S.cell y (Go.Dfl.nth S.cons j).f,(Go.Dfl.nth S.cons j).b)) { a with ld:=upd a.ld (Go.Dfl.nth S.cons j).a (a.ld (Go.Dfl.nth S.cons j).a ++ [Go.Dfl.nth S.cons j]) } b) : P1 S (j + 1) b:=by
 have hc : Go.Dfl.nth S.cons j ∈ S.cons:=Go.Dfl.nth_mem _ _ hj
 have ok:=hS _ hc
 have hl:=sorted_len' hp fun x hx => h.bnd hS _ x ((hL x).2 hx)
 have hl12:=hB.sites
 have l:=hJ.le
 have hm:=hJ.mass (S:=S) (fun e he => by obtain ⟨y, -,rfl⟩:=List.mem_map.1 he; exact vN ok.b) (h.bnd hS)
 have hms : mass S { a with ld:=upd a.ld (Go.Dfl.nth S.cons j).a (a.ld (Go.Dfl.nth S.cons j).a ++ [Go.Dfl.nth S.cons j]) } = mass S a:=rfl
 refine ⟨?_,by have:=h.todo; simp only [hms] at hm; omega,fun i => by have:=hJ.len i; have:=h.cp i; simp only [List.length_map] at *; omega,fun i => by rw [l.2.2.2.2.1]; have:=h.ld i; have:=upd_len a.ld (Go.Dfl.nth S.cons j).a (Go.Dfl.nth S.cons j) i; simp only; omega,fun i => by rw [l.2.2.2.2.2]; have:=h.sr i; simp only; omega,fun i => by rw [l.2.2.2.1]; have:=h.pt i; simp only; omega⟩
 rw [take_next hj]; exact h.inv.load hS hc hk (fun y hy => (hL y).1 hy) (fun y hy => (hL y).2 hy) hJ
theorem P1.store (h : P1 S j a) (hS : S.Ok) (hB : Bnd S) (hj : j < S.cons.length) (hk : (Go.Dfl.nth S.cons j).k = 4) {L : List Nat} (hp : L.Pairwise (· < ·)) (hL : ∀ y,a.p (Go.Dfl.nth S.cons j).b y = true ↔ y ∈ L)
  (hJ : Joins (L.map fun y => ((Go.Dfl.nth S.cons j).a,S.cell y (Go.Dfl.nth S.cons j).f)) { a with sr:=upd a.sr (Go.Dfl.nth S.cons j).b (a.sr (Go.Dfl.nth S.cons j).b ++ [Go.Dfl.nth S.cons j]) } b) : P1 S (j + 1) b:=by
 have hc : Go.Dfl.nth S.cons j ∈ S.cons:=Go.Dfl.nth_mem _ _ hj
 have ok:=hS _ hc
 have hl:=sorted_len' hp fun x hx => h.bnd hS _ x ((hL x).2 hx)
 have hl12:=hB.sites
 have l:=hJ.le
 have hm:=hJ.mass (S:=S) (fun e he => by obtain ⟨y,hy,rfl⟩:=List.mem_map.1 he; exact Syst.cell_lt (h.bnd hS _ y ((hL y).2 hy)) (ok.f (.inr hk))) (h.bnd hS)
 have hms : mass S { a with sr:=upd a.sr (Go.Dfl.nth S.cons j).b (a.sr (Go.Dfl.nth S.cons j).b ++ [Go.Dfl.nth S.cons j]) } = mass S a:=rfl
 refine ⟨?_,by have:=h.todo; simp only [hms] at hm; omega,fun i => by have:=hJ.len i; have:=h.cp i; simp only [List.length_map] at *; omega,fun i => by rw [l.2.2.2.2.1]; have:=h.ld i; simp only; omega,fun i => by rw [l.2.2.2.2.2]; have:=h.sr i; have:=upd_len a.sr (Go.Dfl.nth S.cons j).b (Go.Dfl.nth S.cons j) i; simp only; omega,fun i => by rw [l.2.2.2.1]; have:=h.pt i; simp only; omega⟩
 rw [take_next hj]; exact h.inv.store hS hc hk (fun y hy => (hL y).1 hy) (fun y hy => (hL y).2 hy) hJ
theorem P1.filter (h : P1 S j a) (hS : S.Ok) (hj : j < S.cons.length) (hk : (Go.Dfl.nth S.cons j).k = 5) {s : Nat→Bool} (hs : ∀ x,s x = true ↔ x ∈ (Go.Dfl.nth S.cons j).s)
  (hp : Put (Go.Dfl.nth S.cons j).b (fun x => a.p (Go.Dfl.nth S.cons j).a x && s x) { a with pt:=upd a.pt (Go.Dfl.nth S.cons j).a (a.pt (Go.Dfl.nth S.cons j).a ++ [((Go.Dfl.nth S.cons j).b,s)]) } b) : P1 S (j + 1) b:=by
 have hc : Go.Dfl.nth S.cons j ∈ S.cons:=Go.Dfl.nth_mem _ _ hj
 have ok:=hS _ hc
 have l:=hp.le
 have hm:=hp.mass (S:=S) (vN ok.b) (fun x hx => by
  simp only [Bool.and_eq_true] at hx
  exact h.bnd hS _ x hx.1)
 have hms : mass S { a with pt:=upd a.pt (Go.Dfl.nth S.cons j).a (a.pt (Go.Dfl.nth S.cons j).a ++ [((Go.Dfl.nth S.cons j).b,s)]) } = mass S a:=rfl
 refine ⟨?_,by have:=h.todo; simp only [hms] at hm; omega,fun i => by rw [l.2.2.1]; have:=h.cp i; simp only; omega,fun i => by rw [l.2.2.2.2.1]; have:=h.ld i; simp only; omega,fun i => by rw [l.2.2.2.2.2]; have:=h.sr i; simp only; omega,fun i => by rw [l.2.2.2.1]; have:=h.pt i; have:=upd_len a.pt (Go.Dfl.nth S.cons j).a ((Go.Dfl.nth S.cons j).b,s) i; simp only; omega⟩
 rw [take_next hj]; exact h.inv.filter hS hc hk hs hp
end
structure P2 (S : Syst) (vis : Nat) (pend : List Nat) (st : St) : Prop where
 inv : Inv S S.cons st No No No pend
 todo : vis + pend.length + st.todo.length ≤ mass S st
 cp : ∀ i,(st.cp i).length ≤ 1400 + vis * 2600
 ld : ∀ i,(st.ld i).length ≤ 101
 sr : ∀ i,(st.sr i).length ≤ 101
theorem P1.two {S : Syst} {st : St} (h : P1 S S.cons.length st) (hB : Bnd S) : P2 S 0 [] st:=by
 have:=hB.cons
 exact ⟨by simpa using h.inv,by simpa using h.todo,fun i => by have:=h.cp i; omega,fun i => by have:=h.ld i; omega,fun i => by have:=h.sr i; omega⟩
theorem P2.take {S : Syst} {vis : Nat} {st : St} (h : P2 S vis [] st) : P2 S vis st.todo { st with todo:=[] }:=by
 have i:=h.inv
 refine ⟨⟨i.fsub,i.snd,i.cpS,i.cpC,i.ptS,i.ptC,i.ldS,i.ldC,i.srS,i.srC,i.reg,i.qf,fun k => by simpa using i.qt k,by simpa using i.nd,fun k hk => i.lt k (by simpa using hk)⟩, ?_,h.cp,h.ld,h.sr⟩
 have e : mass S { st with todo:=[] } = mass S st:=rfl
 have:=h.todo
 simp at this ⊢; omega
theorem P2.ok {S : Syst} {vis node : Nat} {pend : List Nat} {st : St} (h : P2 S vis (node :: pend) st) (hS : S.Ok) (hB : Bnd S) : VisOk S node st:=by
 have i:=h.inv
 have hm:=mass_le S st
 have hns:=hB.NS
 have ht:=h.todo
 refine ⟨fun t ht => (i.cpS node t ht).2.1,fun e he => vN (i.ptS node e he).2.1,fun c hc => ?_,fun c hc => ?_,fun j x hx => (pts_bound hS (i.snd j x hx)).2,fun x hx => (pts_bound hS (i.snd _ x (i.fsub _ _ hx))).2,by have:=h.ld node; omega,by have:=h.sr node; omega,by omega,fun k => ?_,by omega⟩
 ·obtain ⟨q1,q2,q3⟩:=i.ldS node c hc
  exact ⟨vN (hS c q1).b,(hS c q1).f (.inl q2)⟩
 ·obtain ⟨q1,q2,q3⟩:=i.srS node c hc
  have ha:=(hS c q1).a
  rw [if_neg (by omega)] at ha
  exact ⟨vN ha,(hS c q1).f (.inr q2)⟩
 ·have:=h.cp k
  have : vis ≤ 1200:=by omega
  omega
theorem P2.visit {S : Syst} {vis node : Nat} {pend L : List Nat} {a b : St} (h : P2 S vis (node :: pend) a) (hS : S.Ok) (hB : Bnd S) (hp : L.Pairwise (· < ·)) (hL : ∀ y,a.f node y = true ↔ y ∈ L) (hV : Visit S node L a b) : P2 S (vis + 1) pend b:=by
 have ok:=h.ok hS hB
 have hinv:=h.inv.visit hS hL hV
 have hl:=sorted_len' hp fun x hx => ok.fb x ((hL x).2 hx)
 have hl12:=hB.sites
 obtain ⟨m1,hp1,hrest⟩:=hV
 have hmid0 : Mid S { a with f:=upd a.f node (fun _ => false),q:=upd a.q node false } { a with f:=upd a.f node (fun _ => false),q:=upd a.q node false } 0:=Mid.refl ok.bnd
 have hmid1:=hmid0.puts hp1 fun e he => by
  obtain ⟨t,ht,rfl⟩:=List.mem_map.1 he
  exact ⟨ok.cp t ht,ok.fb⟩
 have hend : ∀ k,k ≤ 2600→Mid S { a with f:=upd a.f node (fun _ => false),q:=upd a.q node false } b k→P2 S (vis + 1) pend b:=fun k hk hm => by
  refine ⟨hinv, ?_,fun i => ?_,fun i => by rw [hm.ld]; exact h.ld i,fun i => by rw [hm.sr]; exact h.sr i⟩
  ·have q1:=hm.todo
   have e : mass S { a with f:=upd a.f node (fun _ => false),q:=upd a.q node false } = mass S a:=rfl
   have q2:=h.todo
   simp only [List.length_cons] at q2
   simp only [e] at q1
   omega
  ·have q1:=hm.cp i
   have q2:=h.cp i
   simp only at q1
   omega
 rcases hrest with ⟨hn,rfl⟩ | ⟨hn,m2,hp2,hj⟩
 ·exact hend 0 (by omega) hmid1
 ·have hmid2:=hmid1.puts hp2 fun e he => by
   obtain ⟨t,ht,rfl⟩:=List.mem_map.1 he
   exact ⟨ok.pt t ht,fun x hx => ok.fb x (by simp only [Bool.and_eq_true] at hx; exact hx.1)⟩
  have e : (fun y => ((a.ld node).map fun c => (S.cell y c.f,c.b)) ++ ((a.sr node).map fun c => (c.a,S.cell y c.f))) = vj S (a.ld node) (a.sr node):=rfl
  rw [e] at hj
  have hmid3:=hmid2.joins hj fun e he => (vj_lt ok rfl rfl hL e he).2
  refine hend _ ?_ hmid3
  rw [vj_len]
  have h1:=h.ld node
  have h2:=h.sr node
  have : L.length * ((a.ld node).length + (a.sr node).length) ≤ 12 * 202:=Nat.mul_le_mul (by omega) (by omega)
  omega
theorem P2.vis {S : Syst} {vis : Nat} {pend : List Nat} {st : St} (h : P2 S vis pend st) (hB : Bnd S) : vis + pend.length + st.todo.length ≤ 1200:=by
 have:=h.todo; have:=mass_le S st; have:=hB.NS; omega
theorem P2.fin {S : Syst} {vis : Nat} {st : St} (h : P2 S vis [] st) (ht : st.todo = []) : ∀ i x,st.p i x = true ↔ Pts S i x:=h.inv.fin ht
end Go.And
end
section
namespace Go.And
structure R where
 k : Int
 a : Int
 b : Int
 f : Int
 s : List Int
instance : Inhabited R:=⟨⟨0,0,0,0, []⟩⟩
structure Sy where
 vars : Int
 sites : Int
 fields : Int
 cons : List R
def R.C (c : R) : C:=⟨c.k.toNat,c.a.toNat,c.b.toNat,c.f.toNat,c.s.map Int.toNat⟩
def Sy.S (s : Sy) : Syst:=⟨s.vars.toNat,s.sites.toNat,s.fields.toNat,s.cons.map R.C⟩
structure VldC (s : Sy) (c : R) : Prop where
 kind : 1 ≤ c.k∧c.k ≤ 5
 a : 0 ≤ c.a∧(if c.k = 1 then c.a < s.sites else c.a < s.vars)
 b : 0 ≤ c.b∧c.b < s.vars
 f : (c.k = 3 ∨ c.k = 4)→0 ≤ c.f∧c.f < s.fields
 s : ∀ x ∈ c.s,0 ≤ x∧x < s.sites
 f0 : c.k ≠ 3→c.k ≠ 4→c.f = 0
 s0 : c.k ≠ 5→c.s = []
 asc : c.s.Pairwise (· < ·)
structure Vld (s : Sy) : Prop where
 vars : 0 ≤ s.vars
 sites : 0 ≤ s.sites
 fields : 0 ≤ s.fields
 cons : ∀ c ∈ s.cons,VldC s c
structure Sm (s : Sy) : Prop where
 vars : s.vars ≤ 40
 sites : s.sites ≤ 12
 fields : s.fields ≤ 5
 cons : s.cons.length ≤ 101
theorem VldC.f' {s : Sy} {c : R} (h : VldC s c) : 0 ≤ c.f:=by
 by_cases h3 : c.k = 3
 ·exact (h.f (.inl h3)).1
 ·by_cases h4 : c.k = 4
  ·exact (h.f (.inr h4)).1
  ·rw [h.f0 h3 h4]; omega
theorem Vld.ok {s : Sy} (h : Vld s) : s.S.Ok:=by
 intro c hc
 obtain ⟨r,hr,rfl⟩:=List.mem_map.1 hc
 have g:=h.cons r hr
 have gk:=g.kind
 have ga:=g.a
 have gb:=g.b
 refine ⟨⟨by show 1 ≤ r.k.toNat; omega,by show r.k.toNat ≤ 5; omega⟩, ?_,by show r.b.toNat < s.vars.toNat; omega, ?_, ?_, ?_, ?_⟩
 ·show if r.k.toNat = 1 then r.a.toNat < s.sites.toNat else r.a.toNat < s.vars.toNat
  by_cases h1 : r.k = 1
  ·rw [if_pos h1] at ga; rw [if_pos (by omega)]; omega
  ·rw [if_neg h1] at ga; rw [if_neg (by omega)]; omega
 ·intro hk
  have hk' : r.k = 3 ∨ r.k = 4:=by
   have : r.k.toNat = 3 ∨ r.k.toNat = 4:=hk
   omega
  have:=g.f hk'
  show r.f.toNat < s.fields.toNat
  omega
 ·intro h3 h4
  have h3' : r.k.toNat ≠ 3:=h3
  have h4' : r.k.toNat ≠ 4:=h4
  have:=g.f0 (by omega) (by omega)
  show r.f.toNat = 0
  omega
 ·intro x hx
  obtain ⟨y,hy,rfl⟩:=List.mem_map.1 hx
  have:=g.s y hy
  show y.toNat < s.sites.toNat
  omega
 ·intro h5
  have h5' : r.k.toNat ≠ 5:=h5
  have:=g.s0 (by omega)
  show r.s.map Int.toNat = []
  rw [this]; rfl
theorem nth_map' {α β : Type} [Inhabited α] [Inhabited β] (f : α→β) (l : List α) (i : Nat) (h : i < l.length) : Go.Dfl.nth (l.map f) i = f (Go.Dfl.nth l i):=by simp [Go.Dfl.nth,h]
theorem cast_toNat : ∀ {l : List Int},(∀ x ∈ l,0 ≤ x)→(l.map Int.toNat).map (fun x : Nat => (x : Int)) = l
 | [],_ => rfl
 | x :: l,h => by
   have:=h x (by simp)
   have ih:=cast_toNat (l:=l) fun y hy => h y (List.mem_cons_of_mem _ hy)
   rw [List.map_cons,List.map_cons,ih,Int.toNat_of_nonneg this]
end Go.And
namespace Go.Proofs.YtgblfjccccdidaaGreat
open Go.RowKit Go.Dfl Go.And
def ConsIn (W : World) (v : Value) (l : List R) : Prop :=
 ∃ rs : List RC,rs.length = l.length∧Sliced W v l.length 5 (fun i j => ((RC.vals (nth rs i))[j]?).getD undef)∧∀ i,i < l.length→(nth rs i).k = (nth l i).k∧(nth rs i).a = (nth l i).a∧(nth rs i).b = (nth l i).b∧(nth rs i).f = (nth l i).f∧Ints W (nth rs i).set (nth l i).s
def SysV (s : Sy) (cv : Value) : Value:=.agg #[.int .i64 s.vars,.int .i64 s.sites,.int .i64 s.fields,cv]
theorem ConsIn.below {W W' : World} {v : Value} {l : List R} (h : ConsIn W v l) (hb : Below W.heap.size W W') : ConsIn W' v l:=by
 obtain ⟨rs,h1,h2,h3⟩:=h
 exact ⟨rs,h1,h2.below hb,fun i hi => ⟨(h3 i hi).1,(h3 i hi).2.1,(h3 i hi).2.2.1,(h3 i hi).2.2.2.1,(h3 i hi).2.2.2.2.below hb⟩⟩
theorem ConsIn.out {W : World} {v : Value} {l : List R} (h : ConsIn W v l) : ∃ a c,v = .slice a l.length c∧l.length ≤ 9223372036854775807 ∧
  (∀ x : Int,0 ≤ x→x < l.length→∀ W',(Instr.indexAt 22 (.slice a l.length c) (.int .i64 x)).run Tryz.prog W' = .ok (.pointer (some ⟨blk a,ofs a + x.toNat * 5,none⟩)) W') ∧
  ∀ j,j < l.length→∃ sa sn sc,W.cell? ⟨blk a,ofs a + j * 5,none⟩ = some (.int .i64 (nth l j).k)∧W.cell? ⟨blk a,ofs a + j * 5 + 1,none⟩ = some (.int .i64 (nth l j).a)∧W.cell? ⟨blk a,ofs a + j * 5 + 2,none⟩ = some (.int .i64 (nth l j).b)∧W.cell? ⟨blk a,ofs a + j * 5 + 3,none⟩ = some (.int .i64 (nth l j).f)∧W.cell? ⟨blk a,ofs a + j * 5 + 4,none⟩ = some (.slice sa sn sc)∧Ints W (.slice sa sn sc) (nth l j).s∧blk a < W.heap.size:=by
 obtain ⟨rs,hl,h2,h3⟩:=h
 obtain ⟨a,c,h1,hn,hi,h4,h5⟩:=h2.outN sCon (by omega)
 refine ⟨a,c,h1,hn,fun x => hi .i64 x,fun j hj => ?_⟩
 obtain ⟨q1,q2,q3,q4,q5⟩:=h3 j hj
 refine ⟨(nth rs j).sa,(nth rs j).sn,(nth rs j).sc, ?_, ?_, ?_, ?_, ?_,q5,h5 j hj⟩
 ·have:=h4 j hj 0 (by omega)
  rw [← q1]; exact this
 ·have:=h4 j hj 1 (by omega)
  rw [← q2]; exact this
 ·have:=h4 j hj 2 (by omega)
  rw [← q3]; exact this
 ·have:=h4 j hj 3 (by omega)
  rw [← q4]; exact this
 ·exact h4 j hj 4 (by omega)
end Go.Proofs.YtgblfjccccdidaaGreat
end
section
namespace Go.Proofs.YtgblfjccccdidaaGreat
open Go.RowKit Go.Dfl Go.And Go.Maps
section
variable {S : Syst} {w0 : World} {sv : Nat} {rl rl' : Nat→Nat} {V : Vals} {st : St} {W W' : World}
theorem Mem.beside (h : Mem S w0 sv rl V st W) {row : Option Nat} (hg : W.grownBy W' row) (hrow : ∀ k,row = some k→rl k = 11) (hsame : ∀ k,k < W.heap.size→rl' k = rl k) (hfr : ∀ k,W'.heap.size ≤ k→rl' k = 0) (hlow : ∀ k,rl' k ≠ 0→w0.heap.size ≤ k) : Mem S w0 sv rl' V st W':=by
 have hs : Stp rl rl' 11 W W' row:=⟨hg,hrow,.inl (by omega),hsame⟩
 have h1:=h.step hs (by omega) hfr hlow
 exact ⟨fun _ => h1.box (by omega),h1.rbox,h1.lbox,fun _ => h1.sets (by omega),fun _ => h1.fresh (by omega),fun _ => h1.cp (by omega),fun _ => h1.pt (by omega),fun _ => h1.ld (by omega),fun _ => h1.sr (by omega),fun _ => h1.q (by omega),fun _ => h1.todo (by omega),h1.fr,h1.bel,h1.low⟩
end
theorem is_own {α : Type} {f : α→Value} {m : Mk} {base b : Nat} {w : World} (h : m.Is base w b) (x0 : α) (hz : m.z = f x0) (hc : (f x0).cells = #[f x0]) (hs : m.size = 1) : Own f w base m.e (m.val b) (List.replicate m.n x0):=by
 unfold Mk.Is at h
 rw [hs,hz,made_cells _ _ hc] at h
 unfold Own
 simpa using h
def mks (N n : Nat) : List Mk :=
 [⟨2,23,22,63,66,N,.slice none 0 0,1,24⟩,⟨4,25,24,63,66,N,.slice none 0 0,1,24⟩,⟨6,27,26,27,32,N,.slice none 0 0,1,24⟩,
  ⟨9,30,29,100,132,n,.slice none 0 0,1,24⟩,⟨12,33,32,101,22,n,.slice none 0 0,1,24⟩,⟨15,36,35,101,22,n,.slice none 0 0,1,24⟩,
  ⟨17,38,37,81,4,N,.bool false,1,1⟩]
def vals0 (cv : Value) (N n : Nat) (bs : Nat→Nat) : Vals :=
 ⟨cv,.slice (some ⟨bs 2,0,none⟩) N N,.slice (some ⟨bs 4,0,none⟩) N N,.slice (some ⟨bs 6,0,none⟩) N N,.slice (some ⟨bs 9,0,none⟩) n n,.slice (some ⟨bs 12,0,none⟩) n n,.slice (some ⟨bs 15,0,none⟩) n n,.slice (some ⟨bs 17,0,none⟩) N N,.slice none 0 0,
  List.replicate N (.slice none 0 0),List.replicate N (.slice none 0 0),List.replicate N (.slice none 0 0),List.replicate n (.slice none 0 0),List.replicate n (.slice none 0 0),List.replicate n (.slice none 0 0),
  List.replicate N [],List.replicate n [],List.replicate n [],List.replicate n [],List.replicate N false⟩
def rl0 (bs : Nat→Nat) (sv : Nat) : Nat→Nat:=fun k =>
 if k = sv then 1 else if k = bs 2 then 2 else if k = bs 4 then 3 else if k = bs 6 then 4 else if k = bs 9 then 5 else if k = bs 12 then 6 else if k = bs 15 then 7 else if k = bs 17 then 8 else 0
theorem nth_rep {α : Type} [Inhabited α] (n : Nat) (x : α) {i : Nat} (h : i < n) : nth (List.replicate n x) i = x:=by simp [nth,h]
set_option maxHeartbeats 1600000 in
theorem Mem.init {S : Syst} {w0 W1 W2 : World} {bs : Nat→Nat} (cv : Value) (hb : Below w0.heap.size w0 W1) (hE : MakesEnd (mks S.N S.vars) w0.heap.size W1 bs W2) :
  Mem S w0 W2.heap.size (rl0 bs W2.heap.size) (vals0 cv S.N S.vars bs) st0 (W2.alloc (.cells ((vals0 cv S.N S.vars bs).cells S) 103)):=by
 have hw0:=hb.size
 have hw1:=hE.grown.size
 have i2:=hE.is _ (by simp [mks] : (⟨2,23,22,63,66,S.N,.slice none 0 0,1,24⟩ : Mk) ∈ mks S.N S.vars)
 have i4:=hE.is _ (by simp [mks] : (⟨4,25,24,63,66,S.N,.slice none 0 0,1,24⟩ : Mk) ∈ mks S.N S.vars)
 have i6:=hE.is _ (by simp [mks] : (⟨6,27,26,27,32,S.N,.slice none 0 0,1,24⟩ : Mk) ∈ mks S.N S.vars)
 have i9:=hE.is _ (by simp [mks] : (⟨9,30,29,100,132,S.vars,.slice none 0 0,1,24⟩ : Mk) ∈ mks S.N S.vars)
 have i12:=hE.is _ (by simp [mks] : (⟨12,33,32,101,22,S.vars,.slice none 0 0,1,24⟩ : Mk) ∈ mks S.N S.vars)
 have i15:=hE.is _ (by simp [mks] : (⟨15,36,35,101,22,S.vars,.slice none 0 0,1,24⟩ : Mk) ∈ mks S.N S.vars)
 have i17:=hE.is _ (by simp [mks] : (⟨17,38,37,81,4,S.N,.bool false,1,1⟩ : Mk) ∈ mks S.N S.vars)
 have nb : ∀ i j,i ∈ (mks S.N S.vars).map (·.i)→j ∈ (mks S.N S.vars).map (·.i)→i ≠ j→bs i ≠ bs j:=fun i j hi hj hne => by
  obtain ⟨m,hm,rfl⟩:=List.mem_map.1 hi
  obtain ⟨m',hm',rfl⟩:=List.mem_map.1 hj
  exact hE.apart m hm m' hm' hne
 have nc : ∀ i j,i ∈ [2,4,6,9,12,15,17]→j ∈ [2,4,6,9,12,15,17]→i ≠ j→bs i ≠ bs j:=nb
 dsimp only at i2 i4 i6 i9 i12 i15 i17
 have g:=grownBy_alloc W2 (.cells ((vals0 cv S.N S.vars bs).cells S) 103)
 have r2 : rl0 bs W2.heap.size (bs 2) = 2:=by unfold rl0; rw [if_neg (Nat.ne_of_lt i2.2.2),if_pos rfl]
 have r4 : rl0 bs W2.heap.size (bs 4) = 3:=by unfold rl0; rw [if_neg (Nat.ne_of_lt i4.2.2),if_neg (nc 4 2 (by decide) (by decide) (by decide)),if_pos rfl]
 have r6 : rl0 bs W2.heap.size (bs 6) = 4:=by unfold rl0; rw [if_neg (Nat.ne_of_lt i6.2.2),if_neg (nc 6 2 (by decide) (by decide) (by decide)),if_neg (nc 6 4 (by decide) (by decide) (by decide)),if_pos rfl]
 have r9 : rl0 bs W2.heap.size (bs 9) = 5:=by unfold rl0; rw [if_neg (Nat.ne_of_lt i9.2.2),if_neg (nc 9 2 (by decide) (by decide) (by decide)),if_neg (nc 9 4 (by decide) (by decide) (by decide)),if_neg (nc 9 6 (by decide) (by decide) (by decide)),if_pos rfl]
 have r12 : rl0 bs W2.heap.size (bs 12) = 6:=by unfold rl0; rw [if_neg (Nat.ne_of_lt i12.2.2),if_neg (nc 12 2 (by decide) (by decide) (by decide)),if_neg (nc 12 4 (by decide) (by decide) (by decide)),if_neg (nc 12 6 (by decide) (by decide) (by decide)),if_neg (nc 12 9 (by decide) (by decide) (by decide)),if_pos rfl]
 have r15 : rl0 bs W2.heap.size (bs 15) = 7:=by unfold rl0; rw [if_neg (Nat.ne_of_lt i15.2.2),if_neg (nc 15 2 (by decide) (by decide) (by decide)),if_neg (nc 15 4 (by decide) (by decide) (by decide)),if_neg (nc 15 6 (by decide) (by decide) (by decide)),if_neg (nc 15 9 (by decide) (by decide) (by decide)),if_neg (nc 15 12 (by decide) (by decide) (by decide)),if_pos rfl]
 have r17 : rl0 bs W2.heap.size (bs 17) = 8:=by unfold rl0; rw [if_neg (Nat.ne_of_lt i17.2.2),if_neg (nc 17 2 (by decide) (by decide) (by decide)),if_neg (nc 17 4 (by decide) (by decide) (by decide)),if_neg (nc 17 6 (by decide) (by decide) (by decide)),if_neg (nc 17 9 (by decide) (by decide) (by decide)),if_neg (nc 17 12 (by decide) (by decide) (by decide)),if_neg (nc 17 15 (by decide) (by decide) (by decide)),if_pos rfl]
 have nofoot : ∀ {n b k : Nat},Foot (.slice (some ⟨b,0,none⟩) n n) (List.replicate n (.slice none 0 0)) k→k = b:=fun {n b k} hf => by
  rcases hf with h | ⟨i,hi,h⟩
  ·simp [Value.ownBlock] at h; exact h.symm
  ·rw [nth_rep _ _ (by simpa using hi)] at h; simp [Value.ownBlock] at h
 refine ⟨fun _ => heap_alloc_new _ _,by simp [rl0],⟨by omega,by simp⟩,fun _ => ⟨(is_own (f:=fun x : Value => x) i2.1 (.slice none 0 0) rfl rfl rfl).alloc _,fun k hk => ?_,by simp [vals0],fun i hi => ?_⟩,fun _ => ⟨(is_own (f:=fun x : Value => x) i4.1 (.slice none 0 0) rfl rfl rfl).alloc _,fun k hk => ?_,by simp [vals0],fun i hi => ?_⟩,
  fun _ => ⟨(OwnN.made (is_own (f:=fun x : Value => x) i6.1 (.slice none 0 0) rfl rfl rfl) (Own.nil _ _ _ _)).alloc kInt _,fun k hk => ?_,by simp [vals0],fun i hi => ?_⟩,
  fun _ => ⟨(OwnN.made (is_own (f:=fun x : Value => x) i9.1 (.slice none 0 0) rfl rfl rfl) (OwnE.nil _ _ _ _)).alloc kPart _,fun k hk => ?_,by simp [vals0],fun i hi => ?_⟩,
  fun _ => ⟨(OwnN.made (is_own (f:=fun x : Value => x) i12.1 (.slice none 0 0) rfl rfl rfl) (OwnE.nil _ _ _ _)).alloc kCon _,fun k hk => ?_,by simp [vals0],fun i hi => ?_⟩,
  fun _ => ⟨(OwnN.made (is_own (f:=fun x : Value => x) i15.1 (.slice none 0 0) rfl rfl rfl) (OwnE.nil _ _ _ _)).alloc kCon _,fun k hk => ?_,by simp [vals0],fun i hi => ?_⟩,
  fun _ => ⟨(is_own (f:=Value.bool) i17.1 false rfl rfl rfl).alloc _,fun k hk => ?_,by simp [vals0],fun i hi => ?_⟩,
  fun _ => ⟨Own.nil _ _ _ _,fun k hk => by simp [vals0,Value.ownBlock] at hk⟩,fun k hk => ?_, ?_,fun k hk => ?_⟩
 ·simp [vals0,Value.ownBlock] at hk; subst hk; exact r2
 ·show IsS _ _ (nth (List.replicate S.N (.slice none 0 0)) i) _
  rw [nth_rep _ _ hi]; exact IsS.nil _ _
 ·simp [vals0,Value.ownBlock] at hk; subst hk; exact r4
 ·show IsS _ _ (nth (List.replicate S.N (.slice none 0 0)) i) _
  rw [nth_rep _ _ hi]; exact IsS.nil _ _
 ·rw [nofoot hk]; exact r6
 ·show nth (List.replicate S.N []) i = _
  rw [nth_rep _ _ hi]; rfl
 ·rw [nofoot hk]; exact r9
 ·show PtRel _ _ (nth (List.replicate S.vars []) i) _
  rw [nth_rep _ _ hi]; exact ⟨rfl,fun j hj => by simp at hj⟩
 ·rw [nofoot hk]; exact r12
 ·show LdRel (nth (List.replicate S.vars []) i) _
  rw [nth_rep _ _ hi]; exact ⟨rfl,fun j hj => by simp at hj⟩
 ·rw [nofoot hk]; exact r15
 ·show LdRel (nth (List.replicate S.vars []) i) _
  rw [nth_rep _ _ hi]; exact ⟨rfl,fun j hj => by simp at hj⟩
 ·simp [vals0,Value.ownBlock] at hk; subst hk; exact r17
 ·show nth (List.replicate S.N false) i = _
  rw [nth_rep _ _ hi]; rfl
 ·simp at hk
  have q2:=i2.2.2
  have q4:=i4.2.2
  have q6:=i6.2.2
  have q9:=i9.2.2
  have q12:=i12.2.2
  have q15:=i15.2.2
  have q17:=i17.2.2
  unfold rl0
  repeat (rw [if_neg (by omega)])
 ·exact (hb.grown hE.grown hb.size (by simp)).grown g (by omega) (by simp)
 ·unfold rl0 at hk
  repeat' split at hk
  all_goals first | omega | exact absurd rfl hk
theorem ktype : Tryz.prog.keyType 108 = true:=by kernel_rfl
theorem cellsK : Tryz.prog.cellsOf 108 = 4:=by kernel_rfl
theorem cellsI : Tryz.prog.cellsOf 3 = 1:=by kernel_rfl
theorem keyWf (k a b f : Int) (h1 : 0 ≤ k∧k ≤ 1000000) (h2 : 0 ≤ a∧a ≤ 1000000) (h3 : 0 ≤ b∧b ≤ 1000000) (h4 : 0 ≤ f∧f ≤ 1000000) : ∃ kl,keyOf Tryz.prog 108 (.agg #[.int .i64 k,.int .i64 a,.int .i64 b,.int .i64 f]) = some kl:=by
 have w : ∀ x : Int,0 ≤ x∧x ≤ 1000000→(Lit.int .i64 x).wf = true:=fun x hx => WalkArith.wf_i64 (by omega)
 have wi : ∀ (d : Nat) (x : Int),0 ≤ x∧x ≤ 1000000→Tryz.prog.keyLits (d + 1) 3 [.int .i64 x] = some [.int .i64 x]:=fun d x hx => by
  simp [Program.keyLits,Tryz.underlying3,w x hx]
 have hsz : ∃ d,Tryz.prog.types.size + 1 = d + 2:=⟨Tryz.prog.types.size - 1,by have : 0 < Tryz.prog.types.size:=of_decide_eq_true (by kernel_rfl); omega⟩
 obtain ⟨d,hd⟩:=hsz
 unfold keyOf
 rw [Tryz.underlying108,hd]
 simp only [ktype,Bool.true_and]
 have hf : (Value.agg #[.int .i64 k,.int .i64 a,.int .i64 b,.int .i64 f]).formed Tryz.prog 108 = true:=by simp [Value.formed,Tryz.underlying108,cellsK]
 rw [if_pos hf]
 unfold Program.keyLits
 simp only [Tryz.underlying108]
 simp [cellsK,cellsI,wi,h1,h2,h3,h4,Value.cells]
end Go.Proofs.YtgblfjccccdidaaGreat
end
section
namespace Go.Proofs.YtgblfjccccdidaaGreat
open Go.RowKit Go.Dfl Go.And Go.Maps
theorem laidOutP : laidOutB Tryz.prog = true:=by kernel_rfl
theorem keyLaw : Keyed Tryz.prog 108:=Keyed.of_law (deep_law_laid laidOutP (m:=2) (by omega) (of_decide_eq_true (by kernel_rfl)) (by kernel_rfl) (by rw [Tryz.underlying108]))
def keyV (c : C) : Value:=.agg #[.int .i64 c.k,.int .i64 c.a,.int .i64 c.b,.int .i64 c.f]
theorem keyV_inj {c d : C} (h : keyV c = keyV d) : c.k = d.k∧c.a = d.a∧c.b = d.b∧c.f = d.f:=by
 simp [keyV] at h
 exact ⟨by omega,by omega,by omega,by omega⟩
def arrF : Array Value:=#[.nilFunc,.func (.func 63) #[] #[],.func (.func 64) #[] #[],.func (.func 65) #[] #[],.func (.func 66) #[] #[],.func (.func 67) #[] #[]]
theorem zeroBool (w : World) : (zeroValue 4).run Tryz.prog w = .ok (.bool false) w:=by kernel_rfl
structure L1 (S : Syst) (w0 : World) (sv ab mb : Nat) (j : Nat) (rl : Nat→Nat) (V : Vals) (st : St) (l : List Value) (W : World) : Prop where
 mem : Mem S w0 sv rl V st W
 ra : rl ab = 0
 rm : rl mb = 11
 arr : W.heap[ab]? = some (.cells arrF 105)
 set : SetM Tryz.prog 108 4 W mb j l
 keys : ∀ key ∈ l, ∃ d ∈ S.cons.take j,key = keyV d
 plain : P1 S j st
theorem L1.start {S : Syst} {w0 : World} {sv : Nat} {rl : Nat→Nat} {V : Vals} {W : World} (h : Mem S w0 sv rl V st0 W) :
  ∃ rl',L1 S w0 sv W.heap.size (W.heap.size + 1) 0 rl' V st0 [] ((W.alloc (.cells arrF 105)).alloc (.map #[] 0)):=by
 have g:=grownBy_trans (grownBy_alloc W (.cells arrF 105)) (grownBy_alloc _ (.map #[] 0))
 refine ⟨fun k => if k = W.heap.size + 1 then 11 else rl k,h.beside g (by simp) (fun k hk => by rw [if_neg (by omega)]) (fun k hk => ?_) (fun k hk => ?_), ?_,by simp, ?_,SetM.made _ _ _ _ (by simp),by simp,P1.start S⟩
 ·simp at hk
  rw [if_neg (by omega)]; exact h.fr k (by omega)
 ·have:=h.bel.size
  by_cases e : k = W.heap.size + 1
  ·omega
  ·rw [if_neg e] at hk; exact h.low k hk
 ·rw [if_neg (by omega)]; exact h.fr _ (Nat.le_refl _)
 ·rw [(grownBy_alloc (W.alloc (.cells arrF 105)) (.map #[] 0)).block _ (by simp) (by simp)]
  exact heap_alloc_new _ _
def Solved (S : Syst) (W : World) (e : Ending) (W' : World) : Prop :=
 ∃ (a : Option Addr) (c : Nat) (xs : List Value) (p : Nat→Nat→Bool),e = .returned (.slice a S.N c)∧Lst (fun x : Value => x) W' (.slice a S.N c) xs∧xs.length = S.N∧(∀ i,i < S.N→IsS (fun _ => 0) W' (nth xs i) (p i))∧(∀ i x,p i x = true ↔ Pts S i x)∧Below W.heap.size W W'
set_option maxHeartbeats 12800000 in
set_option maxRecDepth 100000 in
theorem solve_any (s : Sy) (cv : Value) (W : World) (hc : ConsIn W cv s.cons) (hg : Vld s) (hs : Sm s) : Calls Tryz.prog 41 #[SysV s cv] W (Solved s.S W):=by
 have hOk:=hg.ok
 have hB : Bnd s.S:=⟨by have:=hs.vars; show s.vars.toNat ≤ 40; omega,by have:=hs.sites; show s.sites.toNat ≤ 12; omega,by have:=hs.fields; show s.fields.toNat ≤ 5; omega,by show (s.cons.map R.C).length ≤ 101; rw [List.length_map]; exact hs.cons⟩
 have e1 : s.vars = (s.S.vars : Int):=(Int.toNat_of_nonneg hg.vars).symm
 have e2 : s.sites = (s.S.sites : Int):=(Int.toNat_of_nonneg hg.sites).symm
 have e3 : s.fields = (s.S.fields : Int):=(Int.toNat_of_nonneg hg.fields).symm
 unfold SysV
 rw [e1,e2,e3]
 obtain ⟨ca,cc,rfl,hlen,hci,hcc⟩:=hc.out
 have hlS : s.S.cons.length = s.cons.length:=List.length_map ..
 obtain ⟨S,hS⟩ : ∃ S,S = s.S:=⟨_,rfl⟩
 rw [← hS] at hOk hB hlS
 rw [← hS]
 have HG:=Lib.hid (And.intro hOk (And.intro hB (And.intro hg (And.intro hS (And.intro hcc hlS)))))
 have bv:=hB.vars
 have bs':=hB.sites
 have bf:=hB.fields
 have bn:=hB.N
 have hm0 : 0 ≤ (S.sites : Int) * (S.fields : Int):=by
  have e : (S.sites : Int) * (S.fields : Int) = ((S.sites * S.fields : Nat) : Int):=by simp
  rw [e]; omega
 have hm : (S.sites : Int) * (S.fields : Int) ≤ 60:=by
  have:=Nat.mul_le_mul hB.sites hB.fields
  have e : (S.sites : Int) * (S.fields : Int) = ((S.sites * S.fields : Nat) : Int):=by simp
  rw [e]; omega
 have hNi : (S.N : Int) = (S.vars : Int) + (S.sites : Int) * (S.fields : Int):=by
  unfold Syst.N; simp
 have HN:=Lib.hid hNi
 have hlc : s.cons.length ≤ 101:=hs.cons
 clear hOk hB e1 e2 e3 hcc hlS hS hg hs hNi hc
 go_enter Tryz.func41,Tryz.ntmps41
 go_wp2_with fail
 have hS2 : s.S = S:=HG.out.2.2.2.1.symm
 obtain ⟨Wb,hWb⟩ : ∃ Wb,Wb = W.alloc (.cells #[.int .i64 (S.vars : Int),.int .i64 (S.sites : Int),.int .i64 (S.fields : Int),.slice ca s.cons.length cc] 24):=⟨_,rfl⟩
 have hcb:=cells_new (W:=W) (cs:=[.int .i64 (S.vars : Int),.int .i64 (S.sites : Int),.int .i64 (S.fields : Int),.slice ca s.cons.length cc]) (t:=24) rfl
 have hbB : Below W.heap.size W Wb:=by rw [hWb]; exact (Below.refl _ _).alloc (Nat.le_refl _) _
 rw [← hWb]
 have d0 : Wb.cell? ⟨W.heap.size,0,none⟩ = some (.int .i64 (S.vars : Int)):=by rw [hWb]; exact hcb 0 _ rfl
 have d1 : Wb.cell? ⟨W.heap.size,1,none⟩ = some (.int .i64 (S.sites : Int)):=by rw [hWb]; exact hcb 1 _ rfl
 have d2 : Wb.cell? ⟨W.heap.size,2,none⟩ = some (.int .i64 (S.fields : Int)):=by rw [hWb]; exact hcb 2 _ rfl
 have d3 : Wb.cell? ⟨W.heap.size,3,none⟩ = some (.slice ca s.cons.length cc):=by rw [hWb]; exact hcb 3 _ rfl
 have HBB:=Lib.hid hbB
 have hNr : (S.vars : Int) + (S.sites : Int) * (S.fields : Int) = (S.N : Int):=HN.out.symm
 rw [hNr]
 clear hcb hWb hbB hm0 hm hNr hS2
 obtain ⟨bw,hbw⟩ : ∃ bw,bw = W.heap.size:=⟨_,rfl⟩
 rw [← hbw] at d0 d1 d2 d3 ⊢
 have Hbw:=Lib.hid hbw
 clear hbw
 refine wp_region_makes [0,1,3,5,7,8,10,11,13,14,16] (mks S.N S.vars) [18,19,20] (fun w' => w'.cell? ⟨bw,0,none⟩ = some (.int .i64 (S.vars : Int))∧w'.cell? ⟨bw,1,none⟩ = some (.int .i64 (S.sites : Int))∧w'.cell? ⟨bw,2,none⟩ = some (.int .i64 (S.fields : Int))∧w'.cell? ⟨bw,3,none⟩ = some (.slice ca s.cons.length cc)) W.heap.size HBB.out.size (by kernel_rfl) (by simp [mks]) (by simp [mks]) (by kernel_rfl) (by kernel_rfl) (fun w w' hg hh => ⟨hg.cell hh.1 (by simp),hg.cell hh.2.1 (by simp),hg.cell hh.2.2.1 (by simp),hg.cell hh.2.2.2 (by simp)⟩) ⟨d0,d1,d2,d3⟩ ?_
 repeat (
  refine wpHeads_cons (v:=?_) rfl (Or.inl ⟨by rfl, ?_⟩) ?_
  rotate_left
  ·(intro W hW; go_simp; try with_reducible rfl)
  simp only [Act.put,List.setIfInBounds_toArray])
 refine wpHeads_nil ?_
 simp only [List.getElem_toArray,List.getElem_cons_zero,List.getElem_cons_succ,List.setIfInBounds_toArray,List.set_cons_zero,List.set_cons_succ]
 refine ⟨?_, ?_⟩
 ·intro m hm
  simp only [mks,List.mem_cons,List.not_mem_nil,or_false] at hm
  rcases hm with rfl | rfl | rfl | rfl | rfl | rfl | rfl
  ·exact ⟨sBits2,⟨_,rfl,rfl,rfl,rfl⟩,by dsimp only; omega,by unfold maxLen; dsimp only; omega,rfl⟩
  ·exact ⟨sBits2,⟨_,rfl,rfl,rfl,rfl⟩,by dsimp only; omega,by unfold maxLen; dsimp only; omega,rfl⟩
  ·exact ⟨sInt2,⟨_,rfl,rfl,rfl,rfl⟩,by dsimp only; omega,by unfold maxLen; dsimp only; omega,rfl⟩
  ·exact ⟨sPart2,⟨_,rfl,rfl,rfl,rfl⟩,by dsimp only; omega,by unfold maxLen; dsimp only; omega,rfl⟩
  ·exact ⟨sCon2,⟨_,rfl,rfl,rfl,rfl⟩,by dsimp only; omega,by unfold maxLen; dsimp only; omega,rfl⟩
  ·exact ⟨sCon2,⟨_,rfl,rfl,rfl,rfl⟩,by dsimp only; omega,by unfold maxLen; dsimp only; omega,rfl⟩
  ·exact ⟨sBool,⟨_,rfl,rfl,rfl,rfl⟩,by dsimp only; omega,by unfold maxLen; dsimp only; omega,rfl⟩
 ·intro bs W2 hE hS2
  simp only [mks,List.foldl_cons,List.foldl_nil,Mk.val,List.setIfInBounds_toArray,List.set_cons_zero,List.set_cons_succ]
  have hM:=Mem.init (S:=S) (.slice ca s.cons.length cc) (w0:=W) (W1:=Wb.drew) (below_drewN HBB.out 1) hE
  have HM:=Lib.hid hM
  clear hM hE d0 d1 d2 d3
  obtain ⟨d0,d1,d2,d3⟩:=hS2
  refine wpTailsH_cons rfl ?_
  go_wp2_with fail
  refine tail_mk ⟨d0,d1,d2,d3⟩ ?_
  refine wpTailsH_cons rfl ?_
  go_wp2_with fail
  have g1:=grownBy_alloc W2 (.cells ((vals0 (.slice ca s.cons.length cc) S.N S.vars bs).cells S) 103)
  refine tail_mk ⟨g1.cell d0 (by simp),g1.cell d1 (by simp),g1.cell d2 (by simp),g1.cell d3 (by simp)⟩ ?_
  refine wpTailsH_cons rfl ?_
  go_wp2_with fail
  refine tail_mk ⟨g1.cell d0 (by simp),g1.cell d1 (by simp),g1.cell d2 (by simp),g1.cell d3 (by simp)⟩ ?_
  refine wpTailsH_nil ?_
  refine K_gen (fun Z => Mem S W W2.heap.size (rl0 bs W2.heap.size) (vals0 (.slice ca s.cons.length cc) S.N S.vars bs) st0 Z∧Z.cell? ⟨bw,3,none⟩ = some (.slice ca s.cons.length cc)) ⟨HM.out,g1.cell d3 (by simp)⟩ ?_
  clear g1 d0 d1 d2 d3 HM
  rintro W3 ⟨m3,d3⟩
  obtain ⟨sv,hsv⟩ : ∃ sv,sv = W2.heap.size:=⟨_,rfl⟩
  rw [← hsv] at m3 ⊢
  clear hsv
  obtain ⟨V,hV⟩ : ∃ V,V = vals0 (.slice ca s.cons.length cc) S.N S.vars bs:=⟨_,rfl⟩
  obtain ⟨rl,hrl⟩ : ∃ rl,rl = rl0 bs sv:=⟨_,rfl⟩
  rw [← hV, ← hrl] at m3
  have H3:=Lib.hid m3
  clear m3 hV hrl
  have hmm:=@run_makeMap Tryz.prog
  have hbl : bw < W3.heap.size:=World.block_lt_of_cell? W3 _ d3
  obtain ⟨rl1,hL1⟩:=L1.start H3.out
  have hbl1 : bw ≠ W3.heap.size:=by omega
  have hbl2 : bw ≠ W3.heap.size + 1:=by omega
  go_wp2_with fail
  refine wp_gen (fun Z => L1 S W sv W3.heap.size (W3.heap.size + 1) 0 rl1 V st0 [] Z) hL1 ?_
  clear hL1 hbl hbl1 hbl2 d3 hmm H3
  intro W5 h5
  obtain ⟨ab,hab⟩ : ∃ ab,ab = W3.heap.size:=⟨_,rfl⟩
  obtain ⟨mb,hmb⟩ : ∃ mb,mb = W3.heap.size + 1:=⟨_,rfl⟩
  rw [← hmb, ← hab] at h5 ⊢
  have hne : ab ≠ mb:=by omega
  have H5:=Lib.hid h5
  clear hab hmb h5
  go_loopw [8,9,46] (fun _ _ x wr => ∃ (j : Nat) (rl2 : Nat→Nat) (V2 : Vals) (st2 : St) (l : List Value),j ≤ s.cons.length∧x = .int .i64 j∧Hid (L1 S W sv ab mb j rl2 V2 st2 l wr)) (fun _ _ x _ => s.cons.length - (intOf x).toNat)
  case atStart => exact ⟨0,rl1,V,st0, [],by omega,rfl,H5.out⟩
  case round =>
   obtain ⟨j,rl2,V2,st2,l,hj,rfl,hh⟩:=hrel
   by_cases hlt : j < s.cons.length
   ·obtain ⟨sa,sn,sc,c0,c1,c2,c3,c4,hset,hbl⟩:=HG.out.2.2.2.2.1 j hlt
    have hbel:=hh.out.mem.bel
    rw [← hbel.cell (p:=⟨blk ca,ofs ca + j * 5,none⟩) hbl] at c0
    rw [← hbel.cell (p:=⟨blk ca,ofs ca + j * 5 + 1,none⟩) hbl] at c1
    rw [← hbel.cell (p:=⟨blk ca,ofs ca + j * 5 + 2,none⟩) hbl] at c2
    rw [← hbel.cell (p:=⟨blk ca,ofs ca + j * 5 + 3,none⟩) hbl] at c3
    rw [← hbel.cell (p:=⟨blk ca,ofs ca + j * 5 + 4,none⟩) hbl] at c4
    have hvc:=HG.out.2.2.1.cons _ (nth_mem _ _ hlt)
    have hjS : j < S.cons.length:=by rw [HG.out.2.2.2.2.2]; exact hlt
    have hcn : nth S.cons j = (nth s.cons j).C:=by
     rw [HG.out.2.2.2.1]; exact nth_map' _ _ _ hlt
    have hok:=HG.out.1 _ (nth_mem _ _ hjS)
    have k0 : (nth s.cons j).k = ((nth S.cons j).k : Int):=by rw [hcn]; have:=hvc.kind; show _ = (((nth s.cons j).k.toNat : Nat) : Int); omega
    have k1 : (nth s.cons j).a = ((nth S.cons j).a : Int):=by rw [hcn]; have:=hvc.a.1; show _ = (((nth s.cons j).a.toNat : Nat) : Int); omega
    have k2 : (nth s.cons j).b = ((nth S.cons j).b : Int):=by rw [hcn]; have:=hvc.b.1; show _ = (((nth s.cons j).b.toNat : Nat) : Int); omega
    have k3 : (nth s.cons j).f = ((nth S.cons j).f : Int):=by rw [hcn]; have:=hvc.f'; show _ = (((nth s.cons j).f.toNat : Nat) : Int); omega
    have k4 : (nth s.cons j).s = (nth S.cons j).s.map (fun x : Nat => (x : Int)):=by
     rw [hcn]; exact (cast_toNat fun x hx => (hvc.s x hx).1).symm
    rw [k0] at c0
    rw [k1] at c1
    rw [k2] at c2
    rw [k3] at c3
    rw [k4] at hset
    clear hbel hvc hcn k0 k1 k2 k3 k4
    have HC:=Lib.hid (And.intro hok (And.intro hset (And.intro hbl hjS)))
    clear hok hset hbl hjS
    obtain ⟨c,hc⟩ : ∃ c,c = nth S.cons j:=⟨_,rfl⟩
    rw [← hc] at c0 c1 c2 c3 HC
    have Hc:=Lib.hid hc
    clear hc
    have hck:=HC.out.1.kind
    have hca : c.a ≤ 40:=by have h:=HC.out.1.a; split at h <;> omega
    have hcb : c.b ≤ 40:=by have h:=HC.out.1.b; omega
    have hcf : c.f ≤ 5:=by
     by_cases h3 : c.k = 3 ∨ c.k = 4
     ·have h:=HC.out.1.f h3; omega
     ·have h:=HC.out.1.f0 (by omega) (by omega); omega
    obtain ⟨kl,hkl⟩:=keyWf c.k c.a c.b c.f (by omega) (by omega) (by omega) (by omega)
    have HB:=Lib.hid (And.intro hca (And.intro hcb (And.intro hcf hkl)))
    clear hca hcb hcf hkl
    have hset6:=((hh.out.set.kept (grownBy_alloc wr (.cells #[.int .i64 (c.k : Int),.int .i64 c.a,.int .i64 c.b,.int .i64 c.f,.slice sa sn sc] 48)) (by simp)).kept (grownBy_alloc _ (.cells #[.int .i64 (c.k : Int),.int .i64 c.a,.int .i64 c.b,.int .i64 c.f] 108)) (by simp))
    obtain ⟨x,hlook,hx⟩:=hset6.look keyLaw Tryz.underlying106 Tryz.underlying4 (zeroBool _) HB.out.2.2.2
    have HX:=Lib.hid (And.intro hset6 hx)
    clear hset6 hx
    obtain ⟨ck,c_a,c_b,c_f,c_s⟩:=c
    dsimp only at *
    have hk5 : ck = 1 ∨ ck = 2 ∨ ck = 3 ∨ ck = 4 ∨ ck = 5:=by omega
    clear hck
    rcases hk5 with rfl | rfl | rfl | rfl | rfl
    ·rw [show ((1 : Nat) : Int) = 1 from rfl] at hlook c0
     cases x
     ·go_wp2_with (at_mapUpdate; refine wp_mapPut (t:=106) HX.out.1 rfl _ _ _ rfl keyLaw Tryz.underlying106 Tryz.underlying4 rfl rfl (by unfold maxLen; omega) _ kl rfl HB.out.2.2.2 ?_; intro W7 set7 g7)
      have g6 : wr.grownBy _ none:=grownBy_trans (grownBy_alloc wr (.cells #[.int .i64 1,.int .i64 c_a,.int .i64 c_b,.int .i64 c_f,.slice sa sn sc] 48)) (grownBy_alloc _ (.cells #[.int .i64 1,.int .i64 c_a,.int .i64 c_b,.int .i64 c_f] 108))
      have m6:=hh.out.mem.keep g6
      have m7:=m6.beside g7 (fun k hk => by simp at hk; rw [← hk]; exact hh.out.rm) (fun _ _ => rfl) (fun k hk => m6.fr k (Nat.le_trans g7.size hk)) m6.low
      have habl:=(Array.getElem?_eq_some_iff.1 hh.out.arr).1
      have a7 : W7.heap[ab]? = some (.cells arrF 105):=by
       rw [g7.block ab (Nat.lt_of_lt_of_le habl g6.size) (by simp; exact hne),g6.block ab habl (by simp)]; exact hh.out.arr
      have hmbl:=hh.out.set.lt
      have bx7 : BoxC W7 wr.heap.size 1 c_a c_b c_f (.slice sa sn sc):=((BoxC.new wr 1 c_a c_b c_f (.slice sa sn sc) 48).grown (grownBy_alloc _ (.cells #[.int .i64 1,.int .i64 c_a,.int .i64 c_b,.int .i64 c_f] 108)) (by simp)).grown g7 (by simp; omega)
      have keys7 : ∀ key ∈ (keyV ⟨1,c_a,c_b,c_f,c_s⟩) :: l, ∃ d ∈ S.cons.take (j + 1),key = keyV d:=by
       intro key hk
       rw [take_next HC.out.2.2.2, ← Hc.out]
       rcases List.mem_cons.1 hk with rfl | hk
       ·exact ⟨_,List.mem_append.2 (.inr (by simp)),rfl⟩
       ·obtain ⟨d,hd,e⟩:=hh.out.keys key hk
        exact ⟨d,List.mem_append.2 (.inl hd),e⟩
      have htd : st2.todo.length ≤ 1200:=by
       have h1:=hh.out.plain.todo
       have h2:=mass_le S st2
       have h3:=HG.out.2.1.NS
       omega
      have HT:=Lib.hid (And.intro (show st2.todo.length ≤ 1000000 by omega) (And.intro htd (And.intro hh.out.plain (And.intro hh.out.ra (And.intro hh.out.rm (And.intro set7 keys7))))))
      refine wp_gen (fun Z => Mem S W sv rl2 V2 st2 Z∧Z.heap[ab]? = some (.cells arrF 105)∧BoxC Z wr.heap.size 1 c_a c_b c_f (.slice sa sn sc)∧SetM Tryz.prog 108 4 Z mb (j + 1) ((keyV ⟨1,c_a,c_b,c_f,c_s⟩) :: l)) ⟨m7,a7,bx7,set7⟩ ?_
      clear g6 m6 m7 a7 bx7 keys7 htd set7 g7 c0 c1 c2 c3 c4 hmbl habl
      rintro Z8 ⟨m8,a8,⟨d0,d1,d2,d3,d4⟩,set8⟩
      obtain ⟨cb,hcb⟩ : ∃ cb,cb = wr.heap.size:=⟨_,rfl⟩
      rw [← hcb] at d0 d1 d2 d3 d4 ⊢
      clear hcb
      have af : Z8.cell? ⟨ab,1,none⟩ = some (arrF[1]!):=by simp [World.cell?,a8,arrF]
      simp only [arrF] at af
      have H7:=Lib.hid (And.intro m8 (And.intro a8 set8))
      clear m8 a8 set8
      refine wp_region_mix [0,1,2,3,4,5] [6] (fun w' => BoxC w' cb 1 c_a c_b c_f (.slice sa sn sc)∧w'.cell? ⟨ab,1,none⟩ = some (arrF[1]!)) (by kernel_rfl) (by kernel_rfl) (by kernel_rfl) ⟨⟨d0,d1,d2,d3,d4⟩,af⟩ ?_
      repeat (
       refine wpHeads_cons (v:=?_) rfl (Or.inl ⟨by rfl, ?_⟩) ?_
       rotate_left
       ·(intro W hW; obtain ⟨⟨q1,q2,q3,q4,q5⟩,q6⟩:=hW; simp only [arrF] at q6; go_simp; try with_reducible rfl)
       simp only [Act.put,List.setIfInBounds_toArray])
      refine wpHeads_nil ?_
      refine wpTails_one rfl ?_
      have H8:=Lib.hid (And.intro (H7.out.1.keep (grownBy_drew0 _)) trivial)
      clear d0 d1 d2 d3 d4 af
      go_wp2_with fail
      refine (addr_any H8.out.1 1 c_a c_b c_f sa sn sc (vN HC.out.1.b) (by have:=HB.out.1; omega) (by omega) HT.out.1).mono ?_
      rintro e W9 ⟨v9,rl9,V9,st9,rfl,⟨sset,hsset,hp⟩,m9,e9⟩
      have hP : P1 S (j + 1) st9:=HT.out.2.2.1.addr HG.out.1 HC.out.2.2.2 (by rw [← Hc.out]) (s:=sset) (by rw [← Hc.out]; exact hsset) (by rw [← Hc.out]; exact hp)
      have ab9:=e9.same ab (by have:=(Array.getElem?_eq_some_iff.1 H7.out.2.1).1; exact this) (.inl HT.out.2.2.2.1)
      have mb9:=e9.same mb (by have:=H7.out.2.2.lt; exact this) (.inr (by rw [HT.out.2.2.2.2.1]; omega))
      have H9:=Lib.hid (show L1 S W sv ab mb (j + 1) rl9 V9 st9 _ W9 from ⟨m9,by rw [ab9.2]; exact HT.out.2.2.2.1,by rw [mb9.2]; exact HT.out.2.2.2.2.1,by rw [ab9.1]; exact H7.out.2.1,H7.out.2.2.block mb9.1,HT.out.2.2.2.2.2.2,hP⟩)
      clear hP hp m9 e9 ab9 mb9
      go_wp2_with fail
      refine thenQ_mk ?_
      go_wp2_with fail
      go_roundw
      case rel => exact ⟨j + 1,rl9,V9,st9,_,by omega,by go_num,H9.out⟩
      case measure => simp [intOf]; omega
     ·have hmem:=HX.out.2.1 rfl
      obtain ⟨d,hd,hdk⟩:=hh.out.keys _ hmem
      have hdk':=keyV_inj (c:=⟨1,c_a,c_b,c_f,c_s⟩) hdk
      have hP : P1 S (j + 1) st2:=hh.out.plain.again HC.out.2.2.2 hd (by rw [← Hc.out]; exact hdk'.1) (by rw [← Hc.out]; exact hdk'.2.1) (by rw [← Hc.out]; exact hdk'.2.2.1) (by rw [← Hc.out]; exact hdk'.2.2.2) (by rw [← Hc.out]; dsimp only; omega)
      have HP:=Lib.hid hP
      clear hmem hdk hdk' hd hP
      go_wp2_with fail
      go_roundw
      case rel =>
       have g6 : wr.grownBy _ none:=grownBy_trans (grownBy_alloc wr (.cells #[.int .i64 1,.int .i64 c_a,.int .i64 c_b,.int .i64 c_f,.slice sa sn sc] 48)) (grownBy_alloc _ (.cells #[.int .i64 1,.int .i64 c_a,.int .i64 c_b,.int .i64 c_f] 108))
       exact ⟨j + 1,rl2,V2,st2,l,by omega,by go_num,⟨hh.out.mem.keep g6,hh.out.ra,hh.out.rm,by rw [g6.block ab (Array.getElem?_eq_some_iff.1 hh.out.arr).1 (by simp)]; exact hh.out.arr,HX.out.1.mono (by omega),fun key hk => by
        obtain ⟨d,hd,e⟩:=hh.out.keys key hk
        exact ⟨d,by rw [take_next HC.out.2.2.2]; exact List.mem_append.2 (.inl hd),e⟩,HP.out⟩⟩
      case measure => simp [intOf]; omega
    ·rw [show ((2 : Nat) : Int) = 2 from rfl] at hlook c0
     cases x
     ·go_wp2_with (at_mapUpdate; refine wp_mapPut (t:=106) HX.out.1 rfl _ _ _ rfl keyLaw Tryz.underlying106 Tryz.underlying4 rfl rfl (by unfold maxLen; omega) _ kl rfl HB.out.2.2.2 ?_; intro W7 set7 g7)
      have g6 : wr.grownBy _ none:=grownBy_trans (grownBy_alloc wr (.cells #[.int .i64 2,.int .i64 c_a,.int .i64 c_b,.int .i64 c_f,.slice sa sn sc] 48)) (grownBy_alloc _ (.cells #[.int .i64 2,.int .i64 c_a,.int .i64 c_b,.int .i64 c_f] 108))
      have m6:=hh.out.mem.keep g6
      have m7:=m6.beside g7 (fun k hk => by simp at hk; rw [← hk]; exact hh.out.rm) (fun _ _ => rfl) (fun k hk => m6.fr k (Nat.le_trans g7.size hk)) m6.low
      have habl:=(Array.getElem?_eq_some_iff.1 hh.out.arr).1
      have a7 : W7.heap[ab]? = some (.cells arrF 105):=by
       rw [g7.block ab (Nat.lt_of_lt_of_le habl g6.size) (by simp; exact hne),g6.block ab habl (by simp)]; exact hh.out.arr
      have hmbl:=hh.out.set.lt
      have bx7 : BoxC W7 wr.heap.size 2 c_a c_b c_f (.slice sa sn sc):=((BoxC.new wr 2 c_a c_b c_f (.slice sa sn sc) 48).grown (grownBy_alloc _ (.cells #[.int .i64 2,.int .i64 c_a,.int .i64 c_b,.int .i64 c_f] 108)) (by simp)).grown g7 (by simp; omega)
      have keys7 : ∀ key ∈ (keyV ⟨2,c_a,c_b,c_f,c_s⟩) :: l, ∃ d ∈ S.cons.take (j + 1),key = keyV d:=by
       intro key hk
       rw [take_next HC.out.2.2.2, ← Hc.out]
       rcases List.mem_cons.1 hk with rfl | hk
       ·exact ⟨_,List.mem_append.2 (.inr (by simp)),rfl⟩
       ·obtain ⟨d,hd,e⟩:=hh.out.keys key hk
        exact ⟨d,List.mem_append.2 (.inl hd),e⟩
      have htd : st2.todo.length ≤ 1200:=by
       have h1:=hh.out.plain.todo
       have h2:=mass_le S st2
       have h3:=HG.out.2.1.NS
       omega
      have HT:=Lib.hid (And.intro (show st2.todo.length ≤ 1000000 by omega) (And.intro htd (And.intro hh.out.plain (And.intro hh.out.ra (And.intro hh.out.rm (And.intro set7 keys7))))))
      refine wp_gen (fun Z => Mem S W sv rl2 V2 st2 Z∧Z.heap[ab]? = some (.cells arrF 105)∧BoxC Z wr.heap.size 2 c_a c_b c_f (.slice sa sn sc)∧SetM Tryz.prog 108 4 Z mb (j + 1) ((keyV ⟨2,c_a,c_b,c_f,c_s⟩) :: l)) ⟨m7,a7,bx7,set7⟩ ?_
      clear g6 m6 m7 a7 bx7 keys7 htd set7 g7 c0 c1 c2 c3 c4 hmbl habl
      rintro Z8 ⟨m8,a8,⟨d0,d1,d2,d3,d4⟩,set8⟩
      obtain ⟨cb,hcb⟩ : ∃ cb,cb = wr.heap.size:=⟨_,rfl⟩
      rw [← hcb] at d0 d1 d2 d3 d4 ⊢
      clear hcb
      have af : Z8.cell? ⟨ab,2,none⟩ = some (arrF[2]!):=by simp [World.cell?,a8,arrF]
      simp only [arrF] at af
      have H7:=Lib.hid (And.intro m8 (And.intro a8 set8))
      clear m8 a8 set8
      refine wp_region_mix [0,1,2,3,4,5] [6] (fun w' => BoxC w' cb 2 c_a c_b c_f (.slice sa sn sc)∧w'.cell? ⟨ab,2,none⟩ = some (arrF[2]!)) (by kernel_rfl) (by kernel_rfl) (by kernel_rfl) ⟨⟨d0,d1,d2,d3,d4⟩,af⟩ ?_
      repeat (
       refine wpHeads_cons (v:=?_) rfl (Or.inl ⟨by rfl, ?_⟩) ?_
       rotate_left
       ·(intro W hW; obtain ⟨⟨q1,q2,q3,q4,q5⟩,q6⟩:=hW; simp only [arrF] at q6; go_simp; try with_reducible rfl)
       simp only [Act.put,List.setIfInBounds_toArray])
      refine wpHeads_nil ?_
      refine wpTails_one rfl ?_
      have H8:=Lib.hid (And.intro (H7.out.1.keep (grownBy_drew0 _)) trivial)
      clear d0 d1 d2 d3 d4 af
      go_wp2_with fail
      have haV : c_a < S.vars:=by have h:=HC.out.1.a; simpa using h
      refine (copy_any H8.out.1 2 c_a c_b c_f sa sn sc (vN haV) (vN HC.out.1.b) (by omega) HT.out.1 (by have:=HT.out.2.2.1.cp c_a; omega)).mono ?_
      rintro e W9 ⟨v9,rl9,V9,st9,rfl,hp,m9,e9⟩
      have hP : P1 S (j + 1) st9:=HT.out.2.2.1.copy HG.out.1 HC.out.2.2.2 (by rw [← Hc.out]) (by rw [← Hc.out]; exact hp)
      clear haV
      have ab9:=e9.same ab (by have:=(Array.getElem?_eq_some_iff.1 H7.out.2.1).1; exact this) (.inl HT.out.2.2.2.1)
      have mb9:=e9.same mb (by have:=H7.out.2.2.lt; exact this) (.inr (by rw [HT.out.2.2.2.2.1]; omega))
      have H9:=Lib.hid (show L1 S W sv ab mb (j + 1) rl9 V9 st9 _ W9 from ⟨m9,by rw [ab9.2]; exact HT.out.2.2.2.1,by rw [mb9.2]; exact HT.out.2.2.2.2.1,by rw [ab9.1]; exact H7.out.2.1,H7.out.2.2.block mb9.1,HT.out.2.2.2.2.2.2,hP⟩)
      clear hP hp m9 e9 ab9 mb9
      go_wp2_with fail
      refine thenQ_mk ?_
      go_wp2_with fail
      go_roundw
      case rel => exact ⟨j + 1,rl9,V9,st9,_,by omega,by go_num,H9.out⟩
      case measure => simp [intOf]; omega
     ·have hmem:=HX.out.2.1 rfl
      obtain ⟨d,hd,hdk⟩:=hh.out.keys _ hmem
      have hdk':=keyV_inj (c:=⟨2,c_a,c_b,c_f,c_s⟩) hdk
      have hP : P1 S (j + 1) st2:=hh.out.plain.again HC.out.2.2.2 hd (by rw [← Hc.out]; exact hdk'.1) (by rw [← Hc.out]; exact hdk'.2.1) (by rw [← Hc.out]; exact hdk'.2.2.1) (by rw [← Hc.out]; exact hdk'.2.2.2) (by rw [← Hc.out]; dsimp only; omega)
      have HP:=Lib.hid hP
      clear hmem hdk hdk' hd hP
      go_wp2_with fail
      go_roundw
      case rel =>
       have g6 : wr.grownBy _ none:=grownBy_trans (grownBy_alloc wr (.cells #[.int .i64 2,.int .i64 c_a,.int .i64 c_b,.int .i64 c_f,.slice sa sn sc] 48)) (grownBy_alloc _ (.cells #[.int .i64 2,.int .i64 c_a,.int .i64 c_b,.int .i64 c_f] 108))
       exact ⟨j + 1,rl2,V2,st2,l,by omega,by go_num,⟨hh.out.mem.keep g6,hh.out.ra,hh.out.rm,by rw [g6.block ab (Array.getElem?_eq_some_iff.1 hh.out.arr).1 (by simp)]; exact hh.out.arr,HX.out.1.mono (by omega),fun key hk => by
        obtain ⟨d,hd,e⟩:=hh.out.keys key hk
        exact ⟨d,by rw [take_next HC.out.2.2.2]; exact List.mem_append.2 (.inl hd),e⟩,HP.out⟩⟩
      case measure => simp [intOf]; omega
    ·rw [show ((3 : Nat) : Int) = 3 from rfl] at hlook c0
     cases x
     ·go_wp2_with (at_mapUpdate; refine wp_mapPut (t:=106) HX.out.1 rfl _ _ _ rfl keyLaw Tryz.underlying106 Tryz.underlying4 rfl rfl (by unfold maxLen; omega) _ kl rfl HB.out.2.2.2 ?_; intro W7 set7 g7)
      have g6 : wr.grownBy _ none:=grownBy_trans (grownBy_alloc wr (.cells #[.int .i64 3,.int .i64 c_a,.int .i64 c_b,.int .i64 c_f,.slice sa sn sc] 48)) (grownBy_alloc _ (.cells #[.int .i64 3,.int .i64 c_a,.int .i64 c_b,.int .i64 c_f] 108))
      have m6:=hh.out.mem.keep g6
      have m7:=m6.beside g7 (fun k hk => by simp at hk; rw [← hk]; exact hh.out.rm) (fun _ _ => rfl) (fun k hk => m6.fr k (Nat.le_trans g7.size hk)) m6.low
      have habl:=(Array.getElem?_eq_some_iff.1 hh.out.arr).1
      have a7 : W7.heap[ab]? = some (.cells arrF 105):=by
       rw [g7.block ab (Nat.lt_of_lt_of_le habl g6.size) (by simp; exact hne),g6.block ab habl (by simp)]; exact hh.out.arr
      have hmbl:=hh.out.set.lt
      have bx7 : BoxC W7 wr.heap.size 3 c_a c_b c_f (.slice sa sn sc):=((BoxC.new wr 3 c_a c_b c_f (.slice sa sn sc) 48).grown (grownBy_alloc _ (.cells #[.int .i64 3,.int .i64 c_a,.int .i64 c_b,.int .i64 c_f] 108)) (by simp)).grown g7 (by simp; omega)
      have keys7 : ∀ key ∈ (keyV ⟨3,c_a,c_b,c_f,c_s⟩) :: l, ∃ d ∈ S.cons.take (j + 1),key = keyV d:=by
       intro key hk
       rw [take_next HC.out.2.2.2, ← Hc.out]
       rcases List.mem_cons.1 hk with rfl | hk
       ·exact ⟨_,List.mem_append.2 (.inr (by simp)),rfl⟩
       ·obtain ⟨d,hd,e⟩:=hh.out.keys key hk
        exact ⟨d,List.mem_append.2 (.inl hd),e⟩
      have htd : st2.todo.length ≤ 1200:=by
       have h1:=hh.out.plain.todo
       have h2:=mass_le S st2
       have h3:=HG.out.2.1.NS
       omega
      have HT:=Lib.hid (And.intro (show st2.todo.length ≤ 1000000 by omega) (And.intro htd (And.intro hh.out.plain (And.intro hh.out.ra (And.intro hh.out.rm (And.intro set7 keys7))))))
      refine wp_gen (fun Z => Mem S W sv rl2 V2 st2 Z∧Z.heap[ab]? = some (.cells arrF 105)∧BoxC Z wr.heap.size 3 c_a c_b c_f (.slice sa sn sc)∧SetM Tryz.prog 108 4 Z mb (j + 1) ((keyV ⟨3,c_a,c_b,c_f,c_s⟩) :: l)) ⟨m7,a7,bx7,set7⟩ ?_
      clear g6 m6 m7 a7 bx7 keys7 htd set7 g7 c0 c1 c2 c3 c4 hmbl habl
      rintro Z8 ⟨m8,a8,⟨d0,d1,d2,d3,d4⟩,set8⟩
      obtain ⟨cb,hcb⟩ : ∃ cb,cb = wr.heap.size:=⟨_,rfl⟩
      rw [← hcb] at d0 d1 d2 d3 d4 ⊢
      clear hcb
      have af : Z8.cell? ⟨ab,3,none⟩ = some (arrF[3]!):=by simp [World.cell?,a8,arrF]
      simp only [arrF] at af
      have H7:=Lib.hid (And.intro m8 (And.intro a8 set8))
      clear m8 a8 set8
      refine wp_region_mix [0,1,2,3,4,5] [6] (fun w' => BoxC w' cb 3 c_a c_b c_f (.slice sa sn sc)∧w'.cell? ⟨ab,3,none⟩ = some (arrF[3]!)) (by kernel_rfl) (by kernel_rfl) (by kernel_rfl) ⟨⟨d0,d1,d2,d3,d4⟩,af⟩ ?_
      repeat (
       refine wpHeads_cons (v:=?_) rfl (Or.inl ⟨by rfl, ?_⟩) ?_
       rotate_left
       ·(intro W hW; obtain ⟨⟨q1,q2,q3,q4,q5⟩,q6⟩:=hW; simp only [arrF] at q6; go_simp; try with_reducible rfl)
       simp only [Act.put,List.setIfInBounds_toArray])
      refine wpHeads_nil ?_
      refine wpTails_one rfl ?_
      have H8:=Lib.hid (And.intro (H7.out.1.keep (grownBy_drew0 _)) trivial)
      clear d0 d1 d2 d3 d4 af
      go_wp2_with fail
      have haV : c_a < S.vars:=by have h:=HC.out.1.a; simpa using h
      refine (load_any H8.out.1 ⟨3,c_a,c_b,c_f,c_s⟩ sa sn sc haV HC.out.1.b (HC.out.1.f (.inl rfl)) (by omega) (by omega) (by omega) (by omega) (by have:=HT.out.2.1; omega) (fun i => by have:=HT.out.2.2.1.cp i; omega) (by have:=HT.out.2.2.1.ld c_a; dsimp only; omega) (HT.out.2.2.1.bnd HG.out.1)).mono ?_
      rintro e W9 ⟨v9,rl9,V9,st9,rfl,⟨L,hPw,hL,hp⟩,m9,e9⟩
      have hP : P1 S (j + 1) st9:=HT.out.2.2.1.load HG.out.1 HG.out.2.1 HC.out.2.2.2 (by rw [← Hc.out]) hPw (by rw [← Hc.out]; exact hL) (by rw [← Hc.out]; exact hp)
      clear haV
      have ab9:=e9.same ab (by have:=(Array.getElem?_eq_some_iff.1 H7.out.2.1).1; exact this) (.inl HT.out.2.2.2.1)
      have mb9:=e9.same mb (by have:=H7.out.2.2.lt; exact this) (.inr (by rw [HT.out.2.2.2.2.1]; omega))
      have H9:=Lib.hid (show L1 S W sv ab mb (j + 1) rl9 V9 st9 _ W9 from ⟨m9,by rw [ab9.2]; exact HT.out.2.2.2.1,by rw [mb9.2]; exact HT.out.2.2.2.2.1,by rw [ab9.1]; exact H7.out.2.1,H7.out.2.2.block mb9.1,HT.out.2.2.2.2.2.2,hP⟩)
      clear hP hp m9 e9 ab9 mb9
      go_wp2_with fail
      refine thenQ_mk ?_
      go_wp2_with fail
      go_roundw
      case rel => exact ⟨j + 1,rl9,V9,st9,_,by omega,by go_num,H9.out⟩
      case measure => simp [intOf]; omega
     ·have hmem:=HX.out.2.1 rfl
      obtain ⟨d,hd,hdk⟩:=hh.out.keys _ hmem
      have hdk':=keyV_inj (c:=⟨3,c_a,c_b,c_f,c_s⟩) hdk
      have hP : P1 S (j + 1) st2:=hh.out.plain.again HC.out.2.2.2 hd (by rw [← Hc.out]; exact hdk'.1) (by rw [← Hc.out]; exact hdk'.2.1) (by rw [← Hc.out]; exact hdk'.2.2.1) (by rw [← Hc.out]; exact hdk'.2.2.2) (by rw [← Hc.out]; dsimp only; omega)
      have HP:=Lib.hid hP
      clear hmem hdk hdk' hd hP
      go_wp2_with fail
      go_roundw
      case rel =>
       have g6 : wr.grownBy _ none:=grownBy_trans (grownBy_alloc wr (.cells #[.int .i64 3,.int .i64 c_a,.int .i64 c_b,.int .i64 c_f,.slice sa sn sc] 48)) (grownBy_alloc _ (.cells #[.int .i64 3,.int .i64 c_a,.int .i64 c_b,.int .i64 c_f] 108))
       exact ⟨j + 1,rl2,V2,st2,l,by omega,by go_num,⟨hh.out.mem.keep g6,hh.out.ra,hh.out.rm,by rw [g6.block ab (Array.getElem?_eq_some_iff.1 hh.out.arr).1 (by simp)]; exact hh.out.arr,HX.out.1.mono (by omega),fun key hk => by
        obtain ⟨d,hd,e⟩:=hh.out.keys key hk
        exact ⟨d,by rw [take_next HC.out.2.2.2]; exact List.mem_append.2 (.inl hd),e⟩,HP.out⟩⟩
      case measure => simp [intOf]; omega
    ·rw [show ((4 : Nat) : Int) = 4 from rfl] at hlook c0
     cases x
     ·go_wp2_with (at_mapUpdate; refine wp_mapPut (t:=106) HX.out.1 rfl _ _ _ rfl keyLaw Tryz.underlying106 Tryz.underlying4 rfl rfl (by unfold maxLen; omega) _ kl rfl HB.out.2.2.2 ?_; intro W7 set7 g7)
      have g6 : wr.grownBy _ none:=grownBy_trans (grownBy_alloc wr (.cells #[.int .i64 4,.int .i64 c_a,.int .i64 c_b,.int .i64 c_f,.slice sa sn sc] 48)) (grownBy_alloc _ (.cells #[.int .i64 4,.int .i64 c_a,.int .i64 c_b,.int .i64 c_f] 108))
      have m6:=hh.out.mem.keep g6
      have m7:=m6.beside g7 (fun k hk => by simp at hk; rw [← hk]; exact hh.out.rm) (fun _ _ => rfl) (fun k hk => m6.fr k (Nat.le_trans g7.size hk)) m6.low
      have habl:=(Array.getElem?_eq_some_iff.1 hh.out.arr).1
      have a7 : W7.heap[ab]? = some (.cells arrF 105):=by
       rw [g7.block ab (Nat.lt_of_lt_of_le habl g6.size) (by simp; exact hne),g6.block ab habl (by simp)]; exact hh.out.arr
      have hmbl:=hh.out.set.lt
      have bx7 : BoxC W7 wr.heap.size 4 c_a c_b c_f (.slice sa sn sc):=((BoxC.new wr 4 c_a c_b c_f (.slice sa sn sc) 48).grown (grownBy_alloc _ (.cells #[.int .i64 4,.int .i64 c_a,.int .i64 c_b,.int .i64 c_f] 108)) (by simp)).grown g7 (by simp; omega)
      have keys7 : ∀ key ∈ (keyV ⟨4,c_a,c_b,c_f,c_s⟩) :: l, ∃ d ∈ S.cons.take (j + 1),key = keyV d:=by
       intro key hk
       rw [take_next HC.out.2.2.2, ← Hc.out]
       rcases List.mem_cons.1 hk with rfl | hk
       ·exact ⟨_,List.mem_append.2 (.inr (by simp)),rfl⟩
       ·obtain ⟨d,hd,e⟩:=hh.out.keys key hk
        exact ⟨d,List.mem_append.2 (.inl hd),e⟩
      have htd : st2.todo.length ≤ 1200:=by
       have h1:=hh.out.plain.todo
       have h2:=mass_le S st2
       have h3:=HG.out.2.1.NS
       omega
      have HT:=Lib.hid (And.intro (show st2.todo.length ≤ 1000000 by omega) (And.intro htd (And.intro hh.out.plain (And.intro hh.out.ra (And.intro hh.out.rm (And.intro set7 keys7))))))
      refine wp_gen (fun Z => Mem S W sv rl2 V2 st2 Z∧Z.heap[ab]? = some (.cells arrF 105)∧BoxC Z wr.heap.size 4 c_a c_b c_f (.slice sa sn sc)∧SetM Tryz.prog 108 4 Z mb (j + 1) ((keyV ⟨4,c_a,c_b,c_f,c_s⟩) :: l)) ⟨m7,a7,bx7,set7⟩ ?_
      clear g6 m6 m7 a7 bx7 keys7 htd set7 g7 c0 c1 c2 c3 c4 hmbl habl
      rintro Z8 ⟨m8,a8,⟨d0,d1,d2,d3,d4⟩,set8⟩
      obtain ⟨cb,hcb⟩ : ∃ cb,cb = wr.heap.size:=⟨_,rfl⟩
      rw [← hcb] at d0 d1 d2 d3 d4 ⊢
      clear hcb
      have af : Z8.cell? ⟨ab,4,none⟩ = some (arrF[4]!):=by simp [World.cell?,a8,arrF]
      simp only [arrF] at af
      have H7:=Lib.hid (And.intro m8 (And.intro a8 set8))
      clear m8 a8 set8
      refine wp_region_mix [0,1,2,3,4,5] [6] (fun w' => BoxC w' cb 4 c_a c_b c_f (.slice sa sn sc)∧w'.cell? ⟨ab,4,none⟩ = some (arrF[4]!)) (by kernel_rfl) (by kernel_rfl) (by kernel_rfl) ⟨⟨d0,d1,d2,d3,d4⟩,af⟩ ?_
      repeat (
       refine wpHeads_cons (v:=?_) rfl (Or.inl ⟨by rfl, ?_⟩) ?_
       rotate_left
       ·(intro W hW; obtain ⟨⟨q1,q2,q3,q4,q5⟩,q6⟩:=hW; simp only [arrF] at q6; go_simp; try with_reducible rfl)
       simp only [Act.put,List.setIfInBounds_toArray])
      refine wpHeads_nil ?_
      refine wpTails_one rfl ?_
      have H8:=Lib.hid (And.intro (H7.out.1.keep (grownBy_drew0 _)) trivial)
      clear d0 d1 d2 d3 d4 af
      go_wp2_with fail
      have haV : c_a < S.vars:=by have h:=HC.out.1.a; simpa using h
      refine (store_any H8.out.1 ⟨4,c_a,c_b,c_f,c_s⟩ sa sn sc HC.out.1.b haV (HC.out.1.f (.inr rfl)) (by omega) (by omega) (by omega) (by omega) (by have:=HT.out.2.1; omega) (fun i => by have:=HT.out.2.2.1.cp i; omega) (by have:=HT.out.2.2.1.sr c_b; dsimp only; omega) (HT.out.2.2.1.bnd HG.out.1)).mono ?_
      rintro e W9 ⟨v9,rl9,V9,st9,rfl,⟨L,hPw,hL,hp⟩,m9,e9⟩
      have hP : P1 S (j + 1) st9:=HT.out.2.2.1.store HG.out.1 HG.out.2.1 HC.out.2.2.2 (by rw [← Hc.out]) hPw (by rw [← Hc.out]; exact hL) (by rw [← Hc.out]; exact hp)
      clear haV
      have ab9:=e9.same ab (by have:=(Array.getElem?_eq_some_iff.1 H7.out.2.1).1; exact this) (.inl HT.out.2.2.2.1)
      have mb9:=e9.same mb (by have:=H7.out.2.2.lt; exact this) (.inr (by rw [HT.out.2.2.2.2.1]; omega))
      have H9:=Lib.hid (show L1 S W sv ab mb (j + 1) rl9 V9 st9 _ W9 from ⟨m9,by rw [ab9.2]; exact HT.out.2.2.2.1,by rw [mb9.2]; exact HT.out.2.2.2.2.1,by rw [ab9.1]; exact H7.out.2.1,H7.out.2.2.block mb9.1,HT.out.2.2.2.2.2.2,hP⟩)
      clear hP hp m9 e9 ab9 mb9
      go_wp2_with fail
      refine thenQ_mk ?_
      go_wp2_with fail
      go_roundw
      case rel => exact ⟨j + 1,rl9,V9,st9,_,by omega,by go_num,H9.out⟩
      case measure => simp [intOf]; omega
     ·have hmem:=HX.out.2.1 rfl
      obtain ⟨d,hd,hdk⟩:=hh.out.keys _ hmem
      have hdk':=keyV_inj (c:=⟨4,c_a,c_b,c_f,c_s⟩) hdk
      have hP : P1 S (j + 1) st2:=hh.out.plain.again HC.out.2.2.2 hd (by rw [← Hc.out]; exact hdk'.1) (by rw [← Hc.out]; exact hdk'.2.1) (by rw [← Hc.out]; exact hdk'.2.2.1) (by rw [← Hc.out]; exact hdk'.2.2.2) (by rw [← Hc.out]; dsimp only; omega)
      have HP:=Lib.hid hP
      clear hmem hdk hdk' hd hP
      go_wp2_with fail
      go_roundw
      case rel =>
       have g6 : wr.grownBy _ none:=grownBy_trans (grownBy_alloc wr (.cells #[.int .i64 4,.int .i64 c_a,.int .i64 c_b,.int .i64 c_f,.slice sa sn sc] 48)) (grownBy_alloc _ (.cells #[.int .i64 4,.int .i64 c_a,.int .i64 c_b,.int .i64 c_f] 108))
       exact ⟨j + 1,rl2,V2,st2,l,by omega,by go_num,⟨hh.out.mem.keep g6,hh.out.ra,hh.out.rm,by rw [g6.block ab (Array.getElem?_eq_some_iff.1 hh.out.arr).1 (by simp)]; exact hh.out.arr,HX.out.1.mono (by omega),fun key hk => by
        obtain ⟨d,hd,e⟩:=hh.out.keys key hk
        exact ⟨d,by rw [take_next HC.out.2.2.2]; exact List.mem_append.2 (.inl hd),e⟩,HP.out⟩⟩
      case measure => simp [intOf]; omega
    ·rw [show ((5 : Nat) : Int) = 5 from rfl] at c0
     clear hlook
     go_wp2_with (at_mapUpdate; refine wp_mapPut (t:=106) HX.out.1 rfl _ _ _ rfl keyLaw Tryz.underlying106 Tryz.underlying4 rfl rfl (by unfold maxLen; omega) _ kl rfl HB.out.2.2.2 ?_; intro W7 set7 g7)
     have g6 : wr.grownBy _ none:=grownBy_trans (grownBy_alloc wr (.cells #[.int .i64 5,.int .i64 c_a,.int .i64 c_b,.int .i64 c_f,.slice sa sn sc] 48)) (grownBy_alloc _ (.cells #[.int .i64 5,.int .i64 c_a,.int .i64 c_b,.int .i64 c_f] 108))
     have m6:=hh.out.mem.keep g6
     have m7:=m6.beside g7 (fun k hk => by simp at hk; rw [← hk]; exact hh.out.rm) (fun _ _ => rfl) (fun k hk => m6.fr k (Nat.le_trans g7.size hk)) m6.low
     have habl:=(Array.getElem?_eq_some_iff.1 hh.out.arr).1
     have a7 : W7.heap[ab]? = some (.cells arrF 105):=by
      rw [g7.block ab (Nat.lt_of_lt_of_le habl g6.size) (by simp; exact hne),g6.block ab habl (by simp)]; exact hh.out.arr
     have hmbl:=hh.out.set.lt
     have bx7 : BoxC W7 wr.heap.size 5 c_a c_b c_f (.slice sa sn sc):=((BoxC.new wr 5 c_a c_b c_f (.slice sa sn sc) 48).grown (grownBy_alloc _ (.cells #[.int .i64 5,.int .i64 c_a,.int .i64 c_b,.int .i64 c_f] 108)) (by simp)).grown g7 (by simp; omega)
     have keys7 : ∀ key ∈ (keyV ⟨5,c_a,c_b,c_f,c_s⟩) :: l, ∃ d ∈ S.cons.take (j + 1),key = keyV d:=by
      intro key hk
      rw [take_next HC.out.2.2.2, ← Hc.out]
      rcases List.mem_cons.1 hk with rfl | hk
      ·exact ⟨_,List.mem_append.2 (.inr (by simp)),rfl⟩
      ·obtain ⟨d,hd,e⟩:=hh.out.keys key hk
       exact ⟨d,List.mem_append.2 (.inl hd),e⟩
     have htd : st2.todo.length ≤ 1200:=by
      have h1:=hh.out.plain.todo
      have h2:=mass_le S st2
      have h3:=HG.out.2.1.NS
      omega
     have HT:=Lib.hid (And.intro (show st2.todo.length ≤ 1000000 by omega) (And.intro htd (And.intro hh.out.plain (And.intro hh.out.ra (And.intro hh.out.rm (And.intro set7 keys7))))))
     refine wp_gen (fun Z => Mem S W sv rl2 V2 st2 Z∧Z.heap[ab]? = some (.cells arrF 105)∧BoxC Z wr.heap.size 5 c_a c_b c_f (.slice sa sn sc)∧SetM Tryz.prog 108 4 Z mb (j + 1) ((keyV ⟨5,c_a,c_b,c_f,c_s⟩) :: l)) ⟨m7,a7,bx7,set7⟩ ?_
     clear g6 m6 m7 a7 bx7 keys7 htd set7 g7 c0 c1 c2 c3 c4 hmbl habl
     rintro Z8 ⟨m8,a8,⟨d0,d1,d2,d3,d4⟩,set8⟩
     obtain ⟨cb,hcb⟩ : ∃ cb,cb = wr.heap.size:=⟨_,rfl⟩
     rw [← hcb] at d0 d1 d2 d3 d4 ⊢
     clear hcb
     have af : Z8.cell? ⟨ab,5,none⟩ = some (arrF[5]!):=by simp [World.cell?,a8,arrF]
     simp only [arrF] at af
     have H7:=Lib.hid (And.intro m8 (And.intro a8 set8))
     clear m8 a8 set8
     refine wp_region_mix [0,1,2,3,4,5] [6] (fun w' => BoxC w' cb 5 c_a c_b c_f (.slice sa sn sc)∧w'.cell? ⟨ab,5,none⟩ = some (arrF[5]!)) (by kernel_rfl) (by kernel_rfl) (by kernel_rfl) ⟨⟨d0,d1,d2,d3,d4⟩,af⟩ ?_
     repeat (
      refine wpHeads_cons (v:=?_) rfl (Or.inl ⟨by rfl, ?_⟩) ?_
      rotate_left
      ·(intro W hW; obtain ⟨⟨q1,q2,q3,q4,q5⟩,q6⟩:=hW; simp only [arrF] at q6; go_simp; try with_reducible rfl)
      simp only [Act.put,List.setIfInBounds_toArray])
     refine wpHeads_nil ?_
     refine wpTails_one rfl ?_
     have H8:=Lib.hid (And.intro (H7.out.1.keep (grownBy_drew0 _)) trivial)
     clear d0 d1 d2 d3 d4 af
     go_wp2_with fail
     have haV : c_a < S.vars:=by have h:=HC.out.1.a; simpa using h
     refine (filter_any H8.out.1 ⟨5,c_a,c_b,c_f,c_s⟩ sa sn sc haV HC.out.1.b (HC.out.2.1.below H8.out.1.bel) (fun x hx => by have:=HC.out.1.s x hx; omega) (by omega) HT.out.1 (by have:=HT.out.2.2.1.pt c_a; dsimp only; omega)).mono ?_
     rintro e W9 ⟨v9,rl9,V9,st9,rfl,⟨sset,hsset,hp⟩,m9,e9⟩
     have hP : P1 S (j + 1) st9:=HT.out.2.2.1.filter HG.out.1 HC.out.2.2.2 (by rw [← Hc.out]) (s:=sset) (by rw [← Hc.out]; exact hsset) (by rw [← Hc.out]; exact hp)
     clear haV
     have ab9:=e9.same ab (by have:=(Array.getElem?_eq_some_iff.1 H7.out.2.1).1; exact this) (.inl HT.out.2.2.2.1)
     have mb9:=e9.same mb (by have:=H7.out.2.2.lt; exact this) (.inr (by rw [HT.out.2.2.2.2.1]; omega))
     have H9:=Lib.hid (show L1 S W sv ab mb (j + 1) rl9 V9 st9 _ W9 from ⟨m9,by rw [ab9.2]; exact HT.out.2.2.2.1,by rw [mb9.2]; exact HT.out.2.2.2.2.1,by rw [ab9.1]; exact H7.out.2.1,H7.out.2.2.block mb9.1,HT.out.2.2.2.2.2.2,hP⟩)
     clear hP hp m9 e9 ab9 mb9
     go_wp2_with fail
     refine thenQ_mk ?_
     go_wp2_with fail
     go_roundw
     case rel => exact ⟨j + 1,rl9,V9,st9,_,by omega,by go_num,H9.out⟩
     case measure => simp [intOf]; omega
   ·obtain rfl : j = s.cons.length:=by omega
    have hP2:=hh.out.plain
    rw [← HG.out.2.2.2.2.2] at hP2
    have H6:=Lib.hid (And.intro hh.out.mem (hP2.two HG.out.2.1))
    clear hP2 hh hj hlt hci
    go_wp2_with fail
    go_loopg [10,12] 1200 (fun g _ _ wr => ∃ (vis : Nat) (rl3 : Nat→Nat) (V3 : Vals) (st3 : St),vis + g = 1200∧Hid (Mem S W sv rl3 V3 st3 wr∧P2 S vis [] st3))
    case atStart => exact ⟨0,rl2,V2,st2,by omega,H6.out⟩
    case round =>
     obtain ⟨vis,rl3,V3,st3,hg,hh⟩:=hrel
     obtain ⟨ta,tc,hta⟩:=(hh.out.1.todo (by omega)).own.shape (n:=st3.todo.length) (by simp)
     obtain ⟨c11,f11⟩:=hh.out.1.fld 11 (v:=.slice ta st3.todo.length tc) (by rw [← hta]; rfl)
     obtain ⟨xa,xc,hxa⟩:=hh.out.1.setsV
     have c4:=(hh.out.1.fld 4 (v:=.slice xa S.N xc) (by rw [← hxa]; rfl)).1
     by_cases h0 : st3.todo.length = 0
     ·have hfin:=hh.out.2.fin (List.length_eq_zero_iff.1 h0)
      have hset:=hh.out.1.sets (by omega)
      rw [hxa] at hset
      have H7:=Lib.hid (And.intro hfin (And.intro hset hh.out.1.bel))
      rw [h0] at c11
      clear hfin hset
      go_wp2_with fail
      go_ret
      refine ⟨xa,xc,V3.xs,st3.p,rfl,H7.out.2.1.own.lst,H7.out.2.1.len,fun i hi => ?_,H7.out.1,H7.out.2.2⟩
      obtain ⟨r,q1,q2,q3,q4, -⟩:=H7.out.2.1.mean i hi
      exact ⟨r,q1,q2,q3,q4,fun _ _ _ => rfl⟩
     ·obtain ⟨rl4,m4,e4,hI4,hr4⟩:=hh.out.1.clearTodo
      rw [hta] at hI4 hr4
      have hp4:=hh.out.2.take
      obtain ⟨td,htd⟩ : ∃ td,td = st3.todo:=⟨_,rfl⟩
      rw [← htd] at hI4 hr4 hp4 c11 h0
      obtain ⟨n,hn⟩ : ∃ n,n = td.length:=⟨_,rfl⟩
      rw [← hn] at hI4 hr4 c11 h0
      have hnb : n ≤ 1200:=by have:=hp4.vis HG.out.2.1; omega
      have hgt : decide ((n : Int) > 0) = true:=by simp; omega
      have hgt2 : decide ((0 : Int) < (n : Int)) = true:=by simp; omega
      have hgt3 : decide (0 < n) = true:=by simp; omega
      have H8:=Lib.hid (And.intro m4 (And.intro hI4 (And.intro hr4 (And.intro hp4 hn))))
      clear m4 e4 hI4 hr4 hp4 hta htd hn hxa
      go_wp2_with fail
      refine wp_gen (fun Z => Mem S W sv rl4 { V3 with todo:=.slice none 0 0 } { st3 with todo:=[] } Z∧Ints Z (.slice ta n tc) (td.map fun x : Nat => (x : Int))) ⟨H8.out.1,H8.out.2.1⟩ ?_
      rintro W4 ⟨m4,hI4⟩
      obtain ⟨V4,hV4⟩ : ∃ V4,V4 = ({ V3 with todo:=.slice none 0 0 } : Vals):=⟨_,rfl⟩
      obtain ⟨st4,hst4⟩ : ∃ st4,st4 = ({ st3 with todo:=[] } : St):=⟨_,rfl⟩
      rw [← hV4, ← hst4] at m4
      have hp4:=H8.out.2.2.2.1
      rw [← hst4] at hp4
      have hix : ∀ (x : Int),0 ≤ x→x < n→∀ Z,(Instr.indexAt 32 (.slice ta n tc) (.int .i64 x)).run Tryz.prog Z = .ok (.pointer (some ⟨blk ta,ofs ta + x.toNat,none⟩)) Z:=by
       obtain ⟨a6,c6,he6, -,hidx6, -⟩:=hI4.out1 sInt
       simp only [Value.slice.injEq] at he6
       obtain ⟨rfl,he6,rfl⟩:=he6
       intro x h0 h1
       have:=hidx6 .i64 x h0 (by rw [← he6]; exact h1)
       rw [← he6] at this; exact this
      have H9:=Lib.hid (And.intro m4 (And.intro hI4 (And.intro H8.out.2.2.1 (And.intro hp4 H8.out.2.2.2.2))))
      clear m4 hI4 hp4 H8 hV4 hst4 c11 f11 c4 hh
      go_loopw [12,92] (fun _ x wr5 => ∃ (j : Nat) (rl5 : Nat→Nat) (V5 : Vals) (st5 : St),j ≤ n∧x = .int .i64 j∧Hid (Mem S W sv rl5 V5 st5 wr5∧Ext rl4 rl5 W4 wr5∧P2 S (vis + j) (td.drop j) st5)) (fun _ x _ => n - (intOf x).toNat)
      case atStart => exact ⟨0,rl4,V4,st4,by omega,rfl,H9.out.1,Ext.refl _ _,by simpa using H9.out.2.2.2.1⟩
      case round =>
       obtain ⟨j,rl5,V5,st5,hj,rfl,hh⟩:=hrel
       by_cases hlt : j < n
       ·have hjt : j < td.length:=by rw [← H9.out.2.2.2.2]; exact hlt
        have hcl : wr.cell? ⟨blk ta,ofs ta + j,none⟩ = some (.int .i64 ((nth td j : Nat) : Int)):=by
         have hlst:=lst_ext H9.out.2.1 hh.out.2.1 (fun _ k hk => .inr (by rw [H9.out.2.2.1 k hk]; omega))
         obtain ⟨a6,c6,he6, -, -,hcell6, -⟩:=hlst.out1 sInt
         simp only [Value.slice.injEq] at he6
         obtain ⟨rfl, -,rfl⟩:=he6
         have:=hcell6 j (by simpa using hjt)
         rw [this]; simp [nth,hjt]
        have hdr : td.drop j = nth td j :: td.drop (j + 1):=by rw [nth_eq _ _ hjt]; exact List.drop_eq_getElem_cons hjt
        have hp5:=hh.out.2.2
        rw [hdr] at hp5
        have HY:=Lib.hid (And.intro hp5 (hp5.inv.lt (nth td j) (by simp)))
        clear hp5 hdr hjt
        generalize nth td j = y at *
        go_wp2_with fail
        refine (visit_any hh.out.1 y HY.out.2 (by omega) (by omega) (by omega) (by omega) (HY.out.1.ok HG.out.1 HG.out.2.1)).mono ?_
        rintro e W8 ⟨v8,rl8,V8,st8,rfl,⟨L,hPw,hL,hp⟩,m8,e8⟩
        have H10:=Lib.hid (And.intro m8 (And.intro (hh.out.2.1.trans e8) (HY.out.1.visit HG.out.1 HG.out.2.1 hPw hL hp)))
        clear hp m8 e8 hPw hL
        go_wp2_with fail
        go_roundw
        case rel => exact ⟨j + 1,rl8,V8,st8,by omega,by go_num,H10.out⟩
        case measure => simp [intOf]; omega
       ·obtain rfl : j = n:=by omega
        have hp6:=hh.out.2.2
        rw [H9.out.2.2.2.2,List.drop_length, ← H9.out.2.2.2.2] at hp6
        have hv6:=hp6.vis HG.out.2.1
        have H11:=Lib.hid (And.intro hh.out.1 hp6)
        clear hh hp6
        simp only [List.length_nil] at hv6
        go_wp2_with fail
        go_roundg (gk - j)
        case measure => omega
        case rel => exact ⟨vis + j,rl5,V5,st5,by omega,H11.out⟩
end Go.Proofs.YtgblfjccccdidaaGreat
end
section
namespace Go.And
open Go.Dfl (nth nth_mem mem_nth nth_eq)
def subB (l : List Int) (n : Int) : Bool:=l.all fun x => decide (0 ≤ x) && decide (x < n)
theorem subB_iff (l : List Int) (n : Int) : subB l n = true ↔ ∀ i,i < l.length→0 ≤ nth l i∧nth l i < n:=by
 unfold subB
 rw [List.all_eq_true]
 constructor
 ·intro h i hi
  have:=h _ (nth_mem l i hi)
  simpa using this
 ·intro h x hx
  obtain ⟨i,hi,rfl⟩:=mem_nth hx
  simpa using h i hi
def ascB (l : List Int) : Bool:=decide (l.Pairwise (· < ·))
theorem asc_of (l : List Int) (h : ∀ i,i + 1 < l.length→nth l i < nth l (i + 1)) : l.Pairwise (· < ·):=by
 have key : ∀ d i,i + d + 1 < l.length→nth l i < nth l (i + d + 1):=by
  intro d
  induction d with
  | zero => intro i hi; exact h i hi
  | succ d ih =>
    intro i hi
    have h1:=ih i (by omega)
    have h2:=h (i + d + 1) (by omega)
    exact Int.lt_trans h1 h2
 rw [List.pairwise_iff_getElem]
 intro i j hi hj hij
 have:=key (j - i - 1) i (by omega)
 rw [show i + (j - i - 1) + 1 = j by omega,nth_eq _ _ hi,nth_eq _ _ hj] at this
 exact this
theorem asc_at {l : List Int} (h : l.Pairwise (· < ·)) {i : Nat} (hi : i + 1 < l.length) : nth l i < nth l (i + 1):=by
 rw [List.pairwise_iff_getElem] at h
 rw [nth_eq _ _ (by omega),nth_eq _ _ hi]
 exact h i (i + 1) (by omega) hi (by omega)
theorem ascB_iff (l : List Int) : ascB l = true ↔ ∀ i,i + 1 < l.length→nth l i < nth l (i + 1):=by
 unfold ascB
 rw [decide_eq_true_eq]
 exact ⟨fun h i hi => asc_at h hi,asc_of l⟩
def mostOf (s : Sy) (c : R) : Int:=if c.k = 1 then s.sites else s.vars
def conCode (s : Sy) (c : R) : Int :=
 if c.k < 1 ∨ 5 < c.k then 12
 else if c.a < 0 ∨ mostOf s c ≤ c.a ∨ c.b < 0 ∨ s.vars ≤ c.b then 4
 else if ((c.k = 3 ∨ c.k = 4)∧(c.f < 0 ∨ s.fields ≤ c.f)) ∨ subB c.s s.sites = false then 4
 else if (c.k ≠ 3∧c.k ≠ 4∧c.f ≠ 0) ∨ (c.k ≠ 5∧0 < c.s.length) then 1
 else if ascB c.s = false then 13 else 0
def firstCode (s : Sy) : List R→Int
 | [] => 0
 | c :: l => if conCode s c = 0 then firstCode s l else conCode s c
def chkCode (s : Sy) : Int:=if s.vars < 0 ∨ s.sites < 0 ∨ s.fields < 0 then 4 else firstCode s s.cons
theorem conCode_ok {s : Sy} {c : R} : conCode s c = 0 ↔ VldC s c:=by
 unfold conCode
 constructor
 ·intro h
  split at h
  ·omega
  rename_i h1
  split at h
  ·omega
  rename_i h2
  split at h
  ·omega
  rename_i h3
  split at h
  ·omega
  rename_i h4
  split at h
  ·omega
  rename_i h5
  have hs : subB c.s s.sites = true:=by
   cases hh : subB c.s s.sites
   ·exact absurd (Or.inr hh) h3
   ·rfl
  have ha : ascB c.s = true:=by
   cases hh : ascB c.s
   ·exact absurd hh h5
   ·rfl
  refine ⟨by omega,⟨by omega, ?_⟩,by omega,fun hk => ?_,fun x hx => ?_,fun h6 h7 => ?_,fun h6 => ?_, ?_⟩
  ·unfold mostOf at h2
   by_cases e : c.k = 1
   ·rw [if_pos e]; rw [if_pos e] at h2; omega
   ·rw [if_neg e]; rw [if_neg e] at h2; omega
  ·have : ¬ (c.f < 0 ∨ s.fields ≤ c.f):=fun h => h3 (.inl ⟨hk,h⟩)
   omega
  ·obtain ⟨i,hi,rfl⟩:=mem_nth hx
   exact (subB_iff _ _).1 hs i hi
  ·false_or_by_contra
   rename_i hh
   exact h4 (.inl ⟨h6,h7,hh⟩)
  ·have : ¬ 0 < c.s.length:=fun h => h4 (.inr ⟨h6,h⟩)
   exact List.length_eq_zero_iff.1 (by omega)
  ·exact asc_of _ ((ascB_iff _).1 ha)
 ·intro v
  have hk:=v.kind
  have ha:=v.a
  have hb:=v.b
  have hs : subB c.s s.sites = true:=(subB_iff _ _).2 fun i hi => v.s _ (nth_mem _ _ hi)
  have hasc : ascB c.s = true:=by unfold ascB; simpa using v.asc
  rw [if_neg (by omega),if_neg,if_neg,if_neg,if_neg (by simp [hasc])]
  ·rintro (⟨h1,h2,h3⟩ | ⟨h1,h2⟩)
   ·exact h3 (v.f0 h1 h2)
   ·rw [v.s0 h1] at h2; simp at h2
  ·rintro (⟨h1,h2⟩ | h1)
   ·have:=v.f h1; omega
   ·rw [hs] at h1; cases h1
  ·unfold mostOf
   by_cases e : c.k = 1
   ·rw [if_pos e]; rw [if_pos e] at ha; omega
   ·rw [if_neg e]; rw [if_neg e] at ha; omega
theorem firstCode_ok {s : Sy} : ∀ {l : List R},firstCode s l = 0 ↔ ∀ c ∈ l,VldC s c
 | [] => by simp [firstCode]
 | c :: l => by
   unfold firstCode
   split
   ·rename_i h
    rw [firstCode_ok]
    simp [conCode_ok.1 h]
   ·rename_i h
    constructor
    ·intro h2; exact absurd h2 h
    ·intro h2; exact absurd (conCode_ok.2 (h2 c (by simp))) h
theorem chkCode_ok {s : Sy} : chkCode s = 0 ↔ Vld s:=by
 unfold chkCode
 split
 ·constructor
  ·intro h; omega
  ·intro v; have:=v.vars; have:=v.sites; have:=v.fields; omega
 ·rename_i h
  rw [firstCode_ok]
  exact ⟨fun h2 => ⟨by omega,by omega,by omega,h2⟩,fun v => v.cons⟩
def fromCode (s : Sy) (k : Nat) : Int:=firstCode s (s.cons.drop k)
theorem fromCode_step {s : Sy} {k : Nat} (h : k < s.cons.length) : fromCode s k = if conCode s (nth s.cons k) = 0 then fromCode s (k + 1) else conCode s (nth s.cons k):=by
 unfold fromCode
 rw [List.drop_eq_getElem_cons h,firstCode,nth_eq _ _ h]
theorem fromCode_end {s : Sy} : fromCode s s.cons.length = 0:=by unfold fromCode; rw [List.drop_length]; rfl
end Go.And
namespace Go.Proofs.YtgblfjccccdidaaGreat
open Go.RowKit Go.Dfl Go.And
set_option maxHeartbeats 400000 in
theorem subset_any (v : Value) (l : List Int) (n : Int) (w : World) (h : Ints w v l) :
  Calls Tryz.prog 69 #[v,.int .i64 n] w fun e w' => e = .returned (.bool (subB l n))∧Qt w w':=by
 obtain ⟨a,cap,rfl,hm,hidx,hcell,_⟩:=h.out1 sInt
 clear h
 go_enter Tryz.func69,Tryz.ntmps69
 go_wp2
 go_loop [6,9] (fun _ i => ∃ k : Nat,k ≤ l.length∧i = .int .i64 k∧Hid (∀ i,i < k→0 ≤ nth l i∧nth l i < n)) (fun _ i => l.length - (intOf i).toNat)
 case atStart => exact ⟨0,by omega,rfl,fun i hi => by omega⟩
 case round =>
  obtain ⟨k,hk,rfl,hch⟩:=hrel
  by_cases hlt : k < l.length
  ·have hck:=hcell k hlt
   by_cases h1 : nth l k < 0
   ·go_wp2
    go_ret
    refine ⟨ret_bool ?_,Qt.refl _⟩
    symm
    rw [Bool.eq_false_iff]
    intro hh
    have:=(subB_iff _ _).1 hh k hlt
    omega
   ·by_cases h2 : n ≤ nth l k
    ·go_wp2
     go_ret
     refine ⟨ret_bool ?_,Qt.refl _⟩
     symm
     rw [Bool.eq_false_iff]
     intro hh
     have:=(subB_iff _ _).1 hh k hlt
     omega
    ·go_wp2
     go_round
     case rel => exact ⟨k + 1,by omega,by go_num,fun i hi => by
      by_cases e : i = k
      ·subst e; omega
      ·exact hch.out i (by omega)⟩
     case measure => simp [intOf]; omega
  ·go_wp2
   go_ret
   exact ⟨ret_bool ((subB_iff _ _).2 fun i hi => hch.out i (by omega)).symm,Qt.refl _⟩
set_option maxHeartbeats 400000 in
theorem ascending_any (v : Value) (l : List Int) (w : World) (h : Ints w v l) :
  Calls Tryz.prog 70 #[v] w fun e w' => e = .returned (.bool (ascB l))∧Qt w w':=by
 obtain ⟨a,cap,rfl,hm,hidx,hcell,_⟩:=h.out1 sInt
 clear h
 go_enter Tryz.func70,Tryz.ntmps70
 go_wp2
 go_loopw [3] (fun i wr => ∃ k : Nat,1 ≤ k∧i = .int .i64 k∧Qt w wr∧(k ≤ l.length ∨ k = 1)∧Hid (∀ i,i + 1 < k→nth l i < nth l (i + 1))) (fun i _ => l.length + 1 - (intOf i).toNat)
 case atStart => exact ⟨1,by omega,rfl,Qt.refl _,by omega,fun i hi => by omega⟩
 case round =>
  obtain ⟨k,hk,rfl,⟨nw,rfl⟩,hk2,hch⟩:=hrel
  by_cases hlt : k < l.length
  ·obtain ⟨m,rfl⟩ : ∃ m,k = m + 1:=⟨k - 1,by omega⟩
   have hck:=hcell (m + 1) hlt
   have hck2:=hcell m (by omega)
   have hw : IntKind.i64.wrap (m : Int) = m:=IntWalk.i64_in _ (by omega)
   have hm1 : (m : Int) < (l.length : Int):=by omega
   have hm2 : (m : Int) + 1 < (l.length : Int):=by omega
   have hm3 : (0 : Int) ≤ (m : Int):=by omega
   have hm4 : (0 : Int) ≤ (m : Int) + 1:=by omega
   have hm5 : ((m : Int) + 1).toNat = m + 1:=by omega
   by_cases h1 : nth l (m + 1) ≤ nth l m
   ·have hd : decide (nth l m ≥ nth l (m + 1)) = true:=by simpa using h1
    go_wp2
    go_quiet (fail)
    go_wp2
    go_ret
    refine ⟨ret_bool ?_,(by first | exact Qt.refl _ | exact Qt.drewN _ _ | exact (Qt.drewN _ _).trans (Qt.drewN _ _) | exact ((Qt.drewN _ _).trans (Qt.drewN _ _)).trans (Qt.drewN _ _) | exact Qt.drew _ | exact (Qt.drewN _ _).trans (Qt.drew _))⟩
    symm
    rw [Bool.eq_false_iff]
    intro hh
    have:=(ascB_iff _).1 hh m hlt
    omega
   ·have hd : decide (nth l m ≥ nth l (m + 1)) = false:=by simpa using h1
    go_wp2
    go_quiet (fail)
    go_wp2
    go_roundw
    case rel => exact ⟨m + 2,by omega,by go_num,(by first | exact Qt.refl _ | exact Qt.drewN _ _ | exact (Qt.drewN _ _).trans (Qt.drewN _ _) | exact ((Qt.drewN _ _).trans (Qt.drewN _ _)).trans (Qt.drewN _ _) | exact Qt.drew _ | exact (Qt.drewN _ _).trans (Qt.drew _)),by omega,fun i hi => by
     by_cases e : i = m
     ·subst e; omega
     ·exact hch.out i (by omega)⟩
    case measure => simp [intOf]; omega
  ·go_wp2
   go_ret
   exact ⟨ret_bool ((ascB_iff _).2 fun i hi => hch.out i (by omega)).symm,(by first | exact Qt.refl _ | exact Qt.drewN _ _ | exact (Qt.drewN _ _).trans (Qt.drewN _ _) | exact ((Qt.drewN _ _).trans (Qt.drewN _ _)).trans (Qt.drewN _ _) | exact Qt.drew _ | exact (Qt.drewN _ _).trans (Qt.drew _))⟩
end Go.Proofs.YtgblfjccccdidaaGreat
end
section
namespace Go.Proofs.YtgblfjccccdidaaGreat
open Go.RowKit Go.Dfl Go.And
theorem below2 {W W1 : World} {a b : Obj} (q : Qt ((W.alloc a).alloc b) W1) : Below W.heap.size W W1:=by
 have h:=(((Below.refl W.heap.size W).alloc (Nat.le_refl _) a).alloc (by simp) b)
 obtain ⟨n,rfl⟩:=q
 exact below_drewN h n
theorem ints_two {W : World} {v : Value} {l : List Int} (h : Ints W v l) (a b : Obj) : Ints ((W.alloc a).alloc b) v l:=h.below (below2 (Qt.refl _))
set_option maxHeartbeats 6400000 in
theorem check_any (s : Sy) (cv : Value) (c : R) (sv : Value) (W : World) (hset : Ints W sv c.s) :
  Calls Tryz.prog 62 #[SysV s cv,.agg #[.int .i64 c.k,.int .i64 c.a,.int .i64 c.b,.int .i64 c.f,sv]] W fun e W' => e = .returned (.int .i64 (conCode s c))∧Below W.heap.size W W':=by
 obtain ⟨sa,sc,rfl,hm,hidx,hcell,hblk⟩:=hset.out1 sInt
 have HS:=Lib.hid hset
 clear hset hidx hcell hblk
 unfold SysV
 obtain ⟨vars,sites,fields,cons⟩:=s
 obtain ⟨k,a,b,f,cs⟩:=c
 dsimp only at *
 by_cases h1 : k < 1
 ·go_enter Tryz.func62,Tryz.ntmps62
  go_wp2_with fail
  go_ret
  refine ⟨ret_int ?_, ?_⟩
  ·(unfold conCode mostOf; dsimp only; repeat' split) <;> first | rfl | omega | (exfalso; simp_all; done) | (exfalso; simp_all; omega)
  ·first | exact below2 (Qt.refl _) | exact below2 (Qt.drewN _ _) | exact below2 ((Qt.drewN _ _).trans (Qt.drewN _ _))
 ·by_cases h2 : 5 < k
  ·go_enter Tryz.func62,Tryz.ntmps62
   go_wp2_with fail
   go_ret
   refine ⟨ret_int ?_, ?_⟩
   ·(unfold conCode mostOf; dsimp only; repeat' split) <;> first | rfl | omega | (exfalso; simp_all; done) | (exfalso; simp_all; omega)
   ·first | exact below2 (Qt.refl _) | exact below2 (Qt.drewN _ _) | exact below2 ((Qt.drewN _ _).trans (Qt.drewN _ _))
  ·have hk : k = 1 ∨ k = 2 ∨ k = 3 ∨ k = 4 ∨ k = 5:=by omega
   clear h1 h2
   rcases hk with rfl | rfl | rfl | rfl | rfl
   ·go_enter Tryz.func62,Tryz.ntmps62
    go_wp2_with fail
    all_goals first
     | (refine (subset_any _ cs sites _ (ints_two HS.out _ _)).mono ?_
        rintro e W1 ⟨rfl,n1,rfl⟩
        cases hb : subB cs sites
        ·go_wp2_with fail
         go_ret
         refine ⟨ret_int ?_, ?_⟩
         ·(unfold conCode mostOf; dsimp only; repeat' split) <;> first | rfl | omega | (exfalso; simp_all; done) | (exfalso; simp_all; omega)
         ·first | exact below2 (Qt.refl _) | exact below2 (Qt.drewN _ _) | exact below2 ((Qt.drewN _ _).trans (Qt.drewN _ _))
        ·go_wp2_with fail
         all_goals first
          | (refine (ascending_any _ cs _ ((ints_two HS.out _ _).qt (Qt.drewN _ _))).mono ?_
             rintro e W2 ⟨rfl,n2,rfl⟩
             cases hc : ascB cs
             ·go_wp2_with fail
              go_ret
              refine ⟨ret_int ?_, ?_⟩
              ·(unfold conCode mostOf; dsimp only; repeat' split) <;> first | rfl | omega | (exfalso; simp_all; done) | (exfalso; simp_all; omega)
              ·first | exact below2 (Qt.refl _) | exact below2 (Qt.drewN _ _) | exact below2 ((Qt.drewN _ _).trans (Qt.drewN _ _))
             ·go_wp2_with fail
              go_ret
              refine ⟨ret_int ?_, ?_⟩
              ·(unfold conCode mostOf; dsimp only; repeat' split) <;> first | rfl | omega | (exfalso; simp_all; done) | (exfalso; simp_all; omega)
              ·first | exact below2 (Qt.refl _) | exact below2 (Qt.drewN _ _) | exact below2 ((Qt.drewN _ _).trans (Qt.drewN _ _))
             )
          | (skip
             go_ret
             refine ⟨ret_int ?_, ?_⟩
             ·(unfold conCode mostOf; dsimp only; repeat' split) <;> first | rfl | omega | (exfalso; simp_all; done) | (exfalso; simp_all; omega)
             ·first | exact below2 (Qt.refl _) | exact below2 (Qt.drewN _ _) | exact below2 ((Qt.drewN _ _).trans (Qt.drewN _ _))
             ))
     | (skip
        go_ret
        refine ⟨ret_int ?_, ?_⟩
        ·(unfold conCode mostOf; dsimp only; repeat' split) <;> first | rfl | omega | (exfalso; simp_all; done) | (exfalso; simp_all; omega)
        ·first | exact below2 (Qt.refl _) | exact below2 (Qt.drewN _ _) | exact below2 ((Qt.drewN _ _).trans (Qt.drewN _ _))
        )
   ·go_enter Tryz.func62,Tryz.ntmps62
    go_wp2_with fail
    all_goals first
     | (refine (subset_any _ cs sites _ (ints_two HS.out _ _)).mono ?_
        rintro e W1 ⟨rfl,n1,rfl⟩
        cases hb : subB cs sites
        ·go_wp2_with fail
         go_ret
         refine ⟨ret_int ?_, ?_⟩
         ·(unfold conCode mostOf; dsimp only; repeat' split) <;> first | rfl | omega | (exfalso; simp_all; done) | (exfalso; simp_all; omega)
         ·first | exact below2 (Qt.refl _) | exact below2 (Qt.drewN _ _) | exact below2 ((Qt.drewN _ _).trans (Qt.drewN _ _))
        ·go_wp2_with fail
         all_goals first
          | (refine (ascending_any _ cs _ ((ints_two HS.out _ _).qt (Qt.drewN _ _))).mono ?_
             rintro e W2 ⟨rfl,n2,rfl⟩
             cases hc : ascB cs
             ·go_wp2_with fail
              go_ret
              refine ⟨ret_int ?_, ?_⟩
              ·(unfold conCode mostOf; dsimp only; repeat' split) <;> first | rfl | omega | (exfalso; simp_all; done) | (exfalso; simp_all; omega)
              ·first | exact below2 (Qt.refl _) | exact below2 (Qt.drewN _ _) | exact below2 ((Qt.drewN _ _).trans (Qt.drewN _ _))
             ·go_wp2_with fail
              go_ret
              refine ⟨ret_int ?_, ?_⟩
              ·(unfold conCode mostOf; dsimp only; repeat' split) <;> first | rfl | omega | (exfalso; simp_all; done) | (exfalso; simp_all; omega)
              ·first | exact below2 (Qt.refl _) | exact below2 (Qt.drewN _ _) | exact below2 ((Qt.drewN _ _).trans (Qt.drewN _ _))
             )
          | (skip
             go_ret
             refine ⟨ret_int ?_, ?_⟩
             ·(unfold conCode mostOf; dsimp only; repeat' split) <;> first | rfl | omega | (exfalso; simp_all; done) | (exfalso; simp_all; omega)
             ·first | exact below2 (Qt.refl _) | exact below2 (Qt.drewN _ _) | exact below2 ((Qt.drewN _ _).trans (Qt.drewN _ _))
             ))
     | (skip
        go_ret
        refine ⟨ret_int ?_, ?_⟩
        ·(unfold conCode mostOf; dsimp only; repeat' split) <;> first | rfl | omega | (exfalso; simp_all; done) | (exfalso; simp_all; omega)
        ·first | exact below2 (Qt.refl _) | exact below2 (Qt.drewN _ _) | exact below2 ((Qt.drewN _ _).trans (Qt.drewN _ _))
        )
   ·go_enter Tryz.func62,Tryz.ntmps62
    go_wp2_with fail
    all_goals first
     | (refine (subset_any _ cs sites _ (ints_two HS.out _ _)).mono ?_
        rintro e W1 ⟨rfl,n1,rfl⟩
        cases hb : subB cs sites
        ·go_wp2_with fail
         go_ret
         refine ⟨ret_int ?_, ?_⟩
         ·(unfold conCode mostOf; dsimp only; repeat' split) <;> first | rfl | omega | (exfalso; simp_all; done) | (exfalso; simp_all; omega)
         ·first | exact below2 (Qt.refl _) | exact below2 (Qt.drewN _ _) | exact below2 ((Qt.drewN _ _).trans (Qt.drewN _ _))
        ·go_wp2_with fail
         all_goals first
          | (refine (ascending_any _ cs _ ((ints_two HS.out _ _).qt (Qt.drewN _ _))).mono ?_
             rintro e W2 ⟨rfl,n2,rfl⟩
             cases hc : ascB cs
             ·go_wp2_with fail
              go_ret
              refine ⟨ret_int ?_, ?_⟩
              ·(unfold conCode mostOf; dsimp only; repeat' split) <;> first | rfl | omega | (exfalso; simp_all; done) | (exfalso; simp_all; omega)
              ·first | exact below2 (Qt.refl _) | exact below2 (Qt.drewN _ _) | exact below2 ((Qt.drewN _ _).trans (Qt.drewN _ _))
             ·go_wp2_with fail
              go_ret
              refine ⟨ret_int ?_, ?_⟩
              ·(unfold conCode mostOf; dsimp only; repeat' split) <;> first | rfl | omega | (exfalso; simp_all; done) | (exfalso; simp_all; omega)
              ·first | exact below2 (Qt.refl _) | exact below2 (Qt.drewN _ _) | exact below2 ((Qt.drewN _ _).trans (Qt.drewN _ _))
             )
          | (skip
             go_ret
             refine ⟨ret_int ?_, ?_⟩
             ·(unfold conCode mostOf; dsimp only; repeat' split) <;> first | rfl | omega | (exfalso; simp_all; done) | (exfalso; simp_all; omega)
             ·first | exact below2 (Qt.refl _) | exact below2 (Qt.drewN _ _) | exact below2 ((Qt.drewN _ _).trans (Qt.drewN _ _))
             ))
     | (skip
        go_ret
        refine ⟨ret_int ?_, ?_⟩
        ·(unfold conCode mostOf; dsimp only; repeat' split) <;> first | rfl | omega | (exfalso; simp_all; done) | (exfalso; simp_all; omega)
        ·first | exact below2 (Qt.refl _) | exact below2 (Qt.drewN _ _) | exact below2 ((Qt.drewN _ _).trans (Qt.drewN _ _))
        )
   ·go_enter Tryz.func62,Tryz.ntmps62
    go_wp2_with fail
    all_goals first
     | (refine (subset_any _ cs sites _ (ints_two HS.out _ _)).mono ?_
        rintro e W1 ⟨rfl,n1,rfl⟩
        cases hb : subB cs sites
        ·go_wp2_with fail
         go_ret
         refine ⟨ret_int ?_, ?_⟩
         ·(unfold conCode mostOf; dsimp only; repeat' split) <;> first | rfl | omega | (exfalso; simp_all; done) | (exfalso; simp_all; omega)
         ·first | exact below2 (Qt.refl _) | exact below2 (Qt.drewN _ _) | exact below2 ((Qt.drewN _ _).trans (Qt.drewN _ _))
        ·go_wp2_with fail
         all_goals first
          | (refine (ascending_any _ cs _ ((ints_two HS.out _ _).qt (Qt.drewN _ _))).mono ?_
             rintro e W2 ⟨rfl,n2,rfl⟩
             cases hc : ascB cs
             ·go_wp2_with fail
              go_ret
              refine ⟨ret_int ?_, ?_⟩
              ·(unfold conCode mostOf; dsimp only; repeat' split) <;> first | rfl | omega | (exfalso; simp_all; done) | (exfalso; simp_all; omega)
              ·first | exact below2 (Qt.refl _) | exact below2 (Qt.drewN _ _) | exact below2 ((Qt.drewN _ _).trans (Qt.drewN _ _))
             ·go_wp2_with fail
              go_ret
              refine ⟨ret_int ?_, ?_⟩
              ·(unfold conCode mostOf; dsimp only; repeat' split) <;> first | rfl | omega | (exfalso; simp_all; done) | (exfalso; simp_all; omega)
              ·first | exact below2 (Qt.refl _) | exact below2 (Qt.drewN _ _) | exact below2 ((Qt.drewN _ _).trans (Qt.drewN _ _))
             )
          | (skip
             go_ret
             refine ⟨ret_int ?_, ?_⟩
             ·(unfold conCode mostOf; dsimp only; repeat' split) <;> first | rfl | omega | (exfalso; simp_all; done) | (exfalso; simp_all; omega)
             ·first | exact below2 (Qt.refl _) | exact below2 (Qt.drewN _ _) | exact below2 ((Qt.drewN _ _).trans (Qt.drewN _ _))
             ))
     | (skip
        go_ret
        refine ⟨ret_int ?_, ?_⟩
        ·(unfold conCode mostOf; dsimp only; repeat' split) <;> first | rfl | omega | (exfalso; simp_all; done) | (exfalso; simp_all; omega)
        ·first | exact below2 (Qt.refl _) | exact below2 (Qt.drewN _ _) | exact below2 ((Qt.drewN _ _).trans (Qt.drewN _ _))
        )
   ·go_enter Tryz.func62,Tryz.ntmps62
    go_wp2_with fail
    all_goals first
     | (refine (subset_any _ cs sites _ (ints_two HS.out _ _)).mono ?_
        rintro e W1 ⟨rfl,n1,rfl⟩
        cases hb : subB cs sites
        ·go_wp2_with fail
         go_ret
         refine ⟨ret_int ?_, ?_⟩
         ·(unfold conCode mostOf; dsimp only; repeat' split) <;> first | rfl | omega | (exfalso; simp_all; done) | (exfalso; simp_all; omega)
         ·first | exact below2 (Qt.refl _) | exact below2 (Qt.drewN _ _) | exact below2 ((Qt.drewN _ _).trans (Qt.drewN _ _))
        ·go_wp2_with fail
         all_goals first
          | (refine (ascending_any _ cs _ ((ints_two HS.out _ _).qt (Qt.drewN _ _))).mono ?_
             rintro e W2 ⟨rfl,n2,rfl⟩
             cases hc : ascB cs
             ·go_wp2_with fail
              go_ret
              refine ⟨ret_int ?_, ?_⟩
              ·(unfold conCode mostOf; dsimp only; repeat' split) <;> first | rfl | omega | (exfalso; simp_all; done) | (exfalso; simp_all; omega)
              ·first | exact below2 (Qt.refl _) | exact below2 (Qt.drewN _ _) | exact below2 ((Qt.drewN _ _).trans (Qt.drewN _ _))
             ·go_wp2_with fail
              go_ret
              refine ⟨ret_int ?_, ?_⟩
              ·(unfold conCode mostOf; dsimp only; repeat' split) <;> first | rfl | omega | (exfalso; simp_all; done) | (exfalso; simp_all; omega)
              ·first | exact below2 (Qt.refl _) | exact below2 (Qt.drewN _ _) | exact below2 ((Qt.drewN _ _).trans (Qt.drewN _ _))
             )
          | (skip
             go_ret
             refine ⟨ret_int ?_, ?_⟩
             ·(unfold conCode mostOf; dsimp only; repeat' split) <;> first | rfl | omega | (exfalso; simp_all; done) | (exfalso; simp_all; omega)
             ·first | exact below2 (Qt.refl _) | exact below2 (Qt.drewN _ _) | exact below2 ((Qt.drewN _ _).trans (Qt.drewN _ _))
             ))
     | (skip
        go_ret
        refine ⟨ret_int ?_, ?_⟩
        ·(unfold conCode mostOf; dsimp only; repeat' split) <;> first | rfl | omega | (exfalso; simp_all; done) | (exfalso; simp_all; omega)
        ·first | exact below2 (Qt.refl _) | exact below2 (Qt.drewN _ _) | exact below2 ((Qt.drewN _ _).trans (Qt.drewN _ _))
        )
end Go.Proofs.YtgblfjccccdidaaGreat
end
section
namespace Go.Proofs.YtgblfjccccdidaaGreat
open Go.RowKit Go.Dfl Go.And
def BoxS (W : World) (bw : Nat) (s : Sy) (cv : Value) : Prop :=
 W.cell? ⟨bw,0,none⟩ = some (.int .i64 s.vars)∧W.cell? ⟨bw,1,none⟩ = some (.int .i64 s.sites)∧W.cell? ⟨bw,2,none⟩ = some (.int .i64 s.fields)∧W.cell? ⟨bw,3,none⟩ = some cv
theorem BoxS.new (W : World) (s : Sy) (cv : Value) (t : TypeId) : BoxS (W.alloc (.cells #[.int .i64 s.vars,.int .i64 s.sites,.int .i64 s.fields,cv] t)) W.heap.size s cv:=by
 have hc:=cells_new (W:=W) (cs:=[.int .i64 s.vars,.int .i64 s.sites,.int .i64 s.fields,cv]) (t:=t) rfl
 exact ⟨hc 0 _ rfl,hc 1 _ rfl,hc 2 _ rfl,hc 3 _ rfl⟩
theorem BoxS.grown {W W' : World} {bw : Nat} {s : Sy} {cv : Value} {row : Option Nat} (h : BoxS W bw s cv) (hg : W.grownBy W' row) (hne : some bw ≠ row) : BoxS W' bw s cv :=
 ⟨hg.cell h.1 hne,hg.cell h.2.1 hne,hg.cell h.2.2.1 hne,hg.cell h.2.2.2 hne⟩
set_option maxHeartbeats 3200000 in
theorem Check_any (s : Sy) (cv : Value) (W : World) (hc : ConsIn W cv s.cons) (hs : Sm s) :
  Calls Tryz.prog 40 #[SysV s cv] W fun e W' => e = .returned (.int .i64 (chkCode s))∧Below W.heap.size W W':=by
 obtain ⟨ca,cc,rfl,hlen,hci,hcc⟩:=hc.out
 have HC:=Lib.hid (And.intro hcc hc)
 have b1:=hs.vars
 have b2:=hs.sites
 have b3:=hs.fields
 have b4:=hs.cons
 clear hcc hc hs
 unfold SysV
 by_cases h1 : s.vars < 0
 ·go_enter Tryz.func40,Tryz.ntmps40
  go_wp2_with fail
  go_ret
  exact ⟨ret_int (by unfold chkCode; rw [if_pos (by omega)]),(Below.refl _ _).alloc (Nat.le_refl _) _⟩
 by_cases h2 : s.sites < 0
 ·go_enter Tryz.func40,Tryz.ntmps40
  go_wp2_with fail
  go_ret
  exact ⟨ret_int (by unfold chkCode; rw [if_pos (by omega)]),(Below.refl _ _).alloc (Nat.le_refl _) _⟩
 by_cases h3 : s.fields < 0
 ·go_enter Tryz.func40,Tryz.ntmps40
  go_wp2_with fail
  go_ret
  exact ⟨ret_int (by unfold chkCode; rw [if_pos (by omega)]),(Below.refl _ _).alloc (Nat.le_refl _) _⟩
 have hm0 : 0 ≤ s.sites * s.fields:=Int.mul_nonneg (by omega) (by omega)
 have hm1 : s.sites * s.fields ≤ 60:=by
  have h : s.sites * s.fields ≤ 12 * 5:=Int.mul_le_mul (by omega) (by omega) (by omega) (by omega)
  omega
 have hcode : chkCode s = fromCode s 0:=by unfold chkCode fromCode; rw [if_neg (by omega)]; rfl
 have HK:=Lib.hid hcode
 clear hcode
 go_enter Tryz.func40,Tryz.ntmps40
 go_wp2_with fail
 refine wp_gen (fun Z => BoxS Z W.heap.size s (.slice ca s.cons.length cc)∧Below W.heap.size W Z) ⟨BoxS.new _ _ _ _,(Below.refl _ _).alloc (Nat.le_refl _) _⟩ ?_
 rintro W1 h5
 obtain ⟨bw,hbw⟩ : ∃ bw,bw = W.heap.size:=⟨_,rfl⟩
 rw [← hbw] at h5 ⊢
 have H5:=Lib.hid h5
 have Hbw:=Lib.hid hbw
 clear h5 hbw hm0 hm1 h1 h2 h3
 go_loopw [4,5,49] (fun _ _ x wr => ∃ k : Nat,k ≤ s.cons.length∧x = .int .i64 k∧Hid (BoxS wr bw s (.slice ca s.cons.length cc)∧Below bw W wr∧chkCode s = fromCode s k)) (fun _ _ x _ => s.cons.length - (intOf x).toNat)
 case atStart => exact ⟨0,by omega,rfl,H5.out.1,H5.out.2,HK.out⟩
 case round =>
  obtain ⟨k,hk,rfl,hh⟩:=hrel
  by_cases hlt : k < s.cons.length
  ·obtain ⟨sa,sn,sc,c0,c1,c2,c3,c4,hset,hbl⟩:=HC.out.1 k hlt
   have hbel:=hh.out.2.1
   have hbl' : blk ca < bw:=by rw [Hbw.out]; exact hbl
   rw [← hbel.cell (p:=⟨blk ca,ofs ca + k * 5,none⟩) hbl'] at c0
   rw [← hbel.cell (p:=⟨blk ca,ofs ca + k * 5 + 1,none⟩) hbl'] at c1
   rw [← hbel.cell (p:=⟨blk ca,ofs ca + k * 5 + 2,none⟩) hbl'] at c2
   rw [← hbel.cell (p:=⟨blk ca,ofs ca + k * 5 + 3,none⟩) hbl'] at c3
   rw [← hbel.cell (p:=⟨blk ca,ofs ca + k * 5 + 4,none⟩) hbl'] at c4
   obtain ⟨d0,d1,d2,d3⟩:=hh.out.1
   have hstep:=fromCode_step hlt
   have hwr : W.heap.size ≤ wr.heap.size:=by rw [← Hbw.out]; exact Nat.le_trans (by rw [Hbw.out]; exact Nat.le_refl _) hbel.size
   have hset' : Ints wr (.slice sa sn sc) (nth s.cons k).s:=hset.below (by rw [← Hbw.out]; exact hbel)
   have hbwl : bw < wr.heap.size:=World.block_lt_of_cell? wr _ d0
   have n1 : bw ≠ wr.heap.size:=by omega
   have HS:=Lib.hid (And.intro hstep (And.intro hset' (And.intro hbel (And.intro hh.out.2.2 hh.out.1))))
   clear hstep hset' hbel hset hbl hbl' hh
   generalize nth s.cons k = c at *
   have hg9:=grownBy_alloc wr (.cells #[.int .i64 c.k,.int .i64 c.a,.int .i64 c.b,.int .i64 c.f,.slice sa sn sc] 48)
   have HG:=Lib.hid hg9
   clear hg9
   go_wp2_with fail
   refine (check_any s (.slice ca s.cons.length cc) c (.slice sa sn sc) _ (HS.out.2.1.grown HG.out (by simp))).mono ?_
   rintro e W7 ⟨rfl,q7⟩
   have g7:=grownBy_trans HG.out (grownBy_below q7)
   have bx7:=HS.out.2.2.2.2.grown g7 (by simp)
   have be7:=HS.out.2.2.1.grown g7 (by omega) (by simp)
   have H7:=Lib.hid (And.intro bx7 be7)
   clear bx7 be7 g7 q7 d0 d1 d2 d3 c0 c1 c2 c3 c4
   by_cases h0 : conCode s c = 0
   ·have hz : ((0 : Int) != 0) = false:=rfl
    rw [h0]
    have hst:=HS.out.1
    rw [if_pos h0] at hst
    have HT:=Lib.hid hst
    clear hst h0
    go_wp2_with fail
    go_roundw
    case rel => exact ⟨k + 1,by omega,by go_num,H7.out.1,H7.out.2,by rw [HS.out.2.2.2.1,HT.out]⟩
    case measure => simp [intOf]; omega
   ·have hst:=HS.out.1
    rw [if_neg h0] at hst
    have HT:=Lib.hid hst
    have hz : (conCode s c != 0) = true:=by simpa using h0
    clear hst
    generalize conCode s c = code at *
    go_wp2_with fail
    go_ret
    exact ⟨ret_int (by rw [HS.out.2.2.2.1,HT.out]),by rw [← Hbw.out]; exact H7.out.2⟩
  ·obtain rfl : k = s.cons.length:=by omega
   have HE:=Lib.hid hh.out
   clear hh
   go_wp2_with fail
   go_ret
   exact ⟨ret_int (by rw [HE.out.2.2,fromCode_end]),by rw [← Hbw.out]; exact HE.out.2.1⟩
end Go.Proofs.YtgblfjccccdidaaGreat
end
section
namespace Go.Dfl
section
variable {α : Type} [Inhabited α] {f : α→Value} {P : Program} {t e : TypeId} {z : Value} {by8 : Nat}
theorem Own.cutTo3 {w : World} {base : Nat} {v : Value} {l : List α} (ht : SliceOf P t e z 1 by8) (h : Own f w base e v l) (k : Nat) (hk : k ≤ l.length) :
  ∃ a c,(∀ (ik ik' : IntKind) (W : World),(Instr.slice t v none (some (.int ik (k : Int))) (some (.int ik' (k : Int)))).run P W = .ok (.slice a k c) W)∧(∀ q,(Value.slice a k c).ownBlock = some q→v.ownBlock = some q)∧∀ W,Own f W base e v l→Lst f W (.slice a k c) (l.take k):=by
 obtain ⟨i,hi,_,hs,_⟩:=ht.info
 have hlt : (l.take k).length = k:=by simp; omega
 obtain ⟨h1,⟨rfl,h2⟩ | ⟨g,cap,cur,rfl,hg,hh,hc,hm,hsz,htk⟩⟩:=h
 ·obtain rfl : k = 0:=by omega
  refine ⟨none,0,fun ik ik' W => ?_,fun q hq => by simp [Value.ownBlock] at hq,fun W _ => by simpa using Lst.nil f W⟩
  simp [Instr.slice,run_underlying ht.und,Instr.sliceBounds,Instr.sliceBound,asIntOf,run_sizeOf _ hi]
 ·refine ⟨some ⟨g,0,none⟩,k,fun ik ik' W => ?_,fun q hq => hq,fun W ho => ⟨some ⟨g,0,none⟩,k,by rw [hlt],by omega,by omega,fun j hj => ?_⟩⟩
  ·have h1' : k ≤ cap:=by omega
   simp [Instr.slice,run_underlying ht.und,Instr.sliceBounds,Instr.sliceBound,asIntOf,h1',run_sizeOf _ hi,Addr.add]
  ·rw [hlt] at hj
   have:=World.ownsRow.cellAt ho j (by omega)
   rw [nth_map f l j (by omega)] at this
   refine ⟨rfl, ?_,fun q hq => ?_⟩
   ·exact World.block_lt_of_cell? W ⟨g,j,none⟩ this
   ·obtain rfl : q = 0:=by omega
    show W.cell? ⟨g,0 + j * 1 + 0,none⟩ = _
    rw [show 0 + j * 1 + 0 = j by omega,this]
    simp [nth,hj]
theorem Grid.grown {w w' : World} {v : Value} {vs : List Value} {ll : List (List α)} {row : Option Nat} (h : Grid f w v vs ll) (hg : w.grownBy w' row) (hne : ∀ k,Foot v vs k→row ≠ some k) : Grid f w' v vs ll:=by
 obtain ⟨h1,h2,h3⟩:=h
 exact ⟨h1.grown hg fun _ k hk => hne k (.inl hk),h2,fun i hi => (h3 i hi).grown hg fun _ k hk => hne k (.inr ⟨i,by rw [h2]; exact hi,hk⟩)⟩
end
theorem nth_take {α : Type} [Inhabited α] (l : List α) (k i : Nat) (h : i < k) : nth (l.take k) i = nth l i:=by simp [nth,h]
theorem nth_drop {α : Type} [Inhabited α] (l : List α) (k i : Nat) : nth (l.drop k) i = nth l (k + i):=by simp [nth]
end Go.Dfl
namespace Go.Proofs.YtgblfjccccdidaaGreat
open Go.RowKit Go.Dfl Go.And
set_option maxHeartbeats 800000 in
theorem CloneG_any (u : Value) (vs : List Value) (W : World) (h : Src (fun x : Value => x) W u vs) (h1 : ∀ y ∈ vs,y.oneCell' = true) (hl : vs.length ≤ 1000000) :
  Calls Tryz.prog 43 #[u] W fun e W' => ∃ a c,e = .returned (.slice a vs.length c)∧Lst (fun x : Value => x) W' (.slice a vs.length c) vs∧(∀ k,(Value.slice a vs.length c).ownBlock = some k→W.heap.size ≤ k)∧Below W.heap.size W W':=by
 have HS:=Lib.hid h
 have hnil : ∀ (w : World) (a : Option Addr) (n c : Nat),(binOp .eql 27 (.slice a n c) (.slice none 0 0)).run Tryz.prog w = .ok (.bool a.isNone) w:=fun w a n c => Lib.run_eql_slice_nil w _ _ a n c 0 0 Tryz.underlying27
 obtain ⟨a,c,rfl,h2, -⟩:=h
 cases a with
 | none =>
   have h0:=h2 rfl
   have hv : vs = []:=List.length_eq_zero_iff.1 h0
   subst hv
   clear h2 h0
   go_enter Tryz.func43,Tryz.ntmps43
   go_wp2_with fail
   go_ret
   exact ⟨none,0,rfl,Lst.nil _ _,fun k hk => by simp [Value.ownBlock] at hk,Below.refl _ _⟩
 | some ad =>
   clear h2
   go_enter Tryz.func43,Tryz.ntmps43
   go_wp2_with (at_builtin; refine wp_appendS (f:=fun x : Value => x) sInt2 rfl rfl _ _ rfl W.heap.size (.slice (some ⟨W.heap.size,0,none⟩) 0 0) [] rfl (.slice (some ad) vs.length c) vs rfl (own_empty _ rfl (Nat.le_refl _)) (HS.out.grown (grownBy_alloc _ _) (by simp)) h1 (by simp; omega) (by omega) (by simp) ?_; intro v' W' ho hg hloc)
   obtain ⟨s9,c9,rfl⟩:=ho.shape (n:=vs.length) (by simp)
   have hb : Below W.heap.size W W':=((Below.refl W.heap.size W).alloc (Nat.le_refl _) _).grown hg (by simp) (by simp [Value.ownBlock])
   have HO:=Lib.hid (And.intro ho hb)
   clear ho hg hloc hb
   go_wp2_with fail
   go_ret
   exact ⟨s9,c9,rfl,by simpa using HO.out.1.lst,fun k hk => (HO.out.1.lt k hk).1,HO.out.2⟩
theorem IsS.bel {rl : Nat→Nat} {W W' : World} {v : Value} {p : Nat→Bool} (h : IsS rl W v p) (hb : Below W.heap.size W W') : IsS rl W' v p:=by
 obtain ⟨r,h1,h2⟩:=h
 exact ⟨r,h1.below hb,h2⟩
def IsSol (S : Syst) (i : Nat) (l : List Int) : Prop:=∃ L : List Nat,l = L.map (fun x : Nat => (x : Int))∧L.Pairwise (· < ·)∧∀ y,y ∈ L ↔ Pts S i y
def PtsIn (W : World) (u v : Value) (lu lv : List (List Int)) : Prop:=(∃ vs,Grid (Value.int .i64) W u vs lu)∧∃ vs,Grid (Value.int .i64) W v vs lv
def Sol (S : Syst) (lu lv : List (List Int)) : Prop:=lu.length = S.vars∧lv.length = S.sites * S.fields∧(∀ i,i < S.vars→IsSol S i (nth lu i))∧∀ i,i < S.sites * S.fields→IsSol S (S.vars + i) (nth lv i)
def SolveR (s : Sy) (W : World) (e : Ending) (W' : World) : Prop :=
 (chkCode s ≠ 0∧e = .returned (.tuple #[.agg #[.slice none 0 0,.slice none 0 0],.int .i64 (chkCode s)])∧Below W.heap.size W W') ∨
 (chkCode s = 0∧∃ ua uc va vc lu lv,e = .returned (.tuple #[.agg #[.slice ua s.S.vars uc,.slice va (s.S.sites * s.S.fields) vc],.int .i64 0])∧PtsIn W' (.slice ua s.S.vars uc) (.slice va (s.S.sites * s.S.fields) vc) lu lv∧Sol s.S lu lv∧Below W.heap.size W W')
set_option maxHeartbeats 6400000 in
set_option maxRecDepth 100000 in
theorem Solve_any (s : Sy) (cv : Value) (W : World) (hc : ConsIn W cv s.cons) (hs : Sm s) : Calls Tryz.prog 22 #[SysV s cv] W (SolveR s W):=by
 have HC:=Lib.hid (And.intro hc hs)
 have g0:=grownBy_trans (grownBy_alloc W (.cells #[.int .i64 s.vars,.int .i64 s.sites,.int .i64 s.fields,cv] 24)) (grownBy_alloc _ (.cells #[.slice none 0 0,.slice none 0 0] 34))
 have b0 : Below W.heap.size W _:=((Below.refl W.heap.size W).alloc (Nat.le_refl _) (.cells #[.int .i64 s.vars,.int .i64 s.sites,.int .i64 s.fields,cv] 24)).alloc (by simp) (.cells #[.slice none 0 0,.slice none 0 0] 34)
 have HG0:=Lib.hid (And.intro g0 b0)
 have hbs:=(BoxS.new W s cv 24).grown (grownBy_alloc _ (.cells #[.slice none 0 0,.slice none 0 0] 34)) (by simp)
 have HBS:=Lib.hid hbs
 clear g0 b0 hbs hc hs
 unfold SysV
 go_enter Tryz.func22,Tryz.ntmps22
 go_wp2_with fail
 refine (Check_any s cv _ (HC.out.1.below (HG0.out.2)) HC.out.2).mono ?_
 rintro e W1 ⟨rfl,q1⟩
 have g1:=grownBy_trans HG0.out.1 (grownBy_below q1)
 have be1 : Below W.heap.size W W1:=HG0.out.2.grown (grownBy_below q1) (by simp; omega) (by simp)
 obtain ⟨d0,d1,d2,d3⟩:=HBS.out.grown (grownBy_below q1) (by simp)
 have hp0 : W1.cell? ⟨W.heap.size + 1,0,none⟩ = some (.slice none 0 0)∧W1.cell? ⟨W.heap.size + 1,1,none⟩ = some (.slice none 0 0)∧W1.frozen? ⟨W.heap.size + 1,0,none⟩ = false∧W1.frozen? ⟨W.heap.size + 1,1,none⟩ = false:=by
  have hb : W1.heap[W.heap.size + 1]? = some (.cells #[.slice none 0 0,.slice none 0 0] 34):=by
   rw [(grownBy_below q1).block (W.heap.size + 1) (by simp) (by simp)]
   have:=heap_alloc_new (W.alloc (.cells #[.int .i64 s.vars,.int .i64 s.sites,.int .i64 s.fields,cv] 24)) (.cells #[.slice none 0 0,.slice none 0 0] 34)
   simpa using this
  refine ⟨by simp [World.cell?,hb],by simp [World.cell?,hb],by simp [World.frozen?,hb],by simp [World.frozen?,hb]⟩
 have H1:=Lib.hid (And.intro g1 be1)
 clear g1 be1 q1
 obtain ⟨p0,p1,f0,f1⟩:=hp0
 have bsz : W.heap.size + 1 < W1.heap.size:=World.block_lt_of_cell? W1 ⟨W.heap.size + 1,0,none⟩ p0
 by_cases h0 : chkCode s = 0
 ·have hv:=chkCode_ok.1 h0
  rw [h0]
  have HV:=Lib.hid (And.intro h0 hv)
  clear h0
  go_wp2_with fail
  refine (solve_any s cv _ (HC.out.1.below H1.out.2) HV.out.2 HC.out.2).mono ?_
  rintro e W2 ⟨xa,xc,xs,p,rfl,hx,hxl,hxm,hxp,q2⟩
  have e1 : s.vars = (s.S.vars : Int):=(Int.toNat_of_nonneg HV.out.2.vars).symm
  have hB2 : Below W.heap.size W W2:=H1.out.2.grown (grownBy_below q2) H1.out.2.size (by simp)
  have hbN : s.S.N ≤ 100:=Bnd.N ⟨by have:=HC.out.2.vars; show s.vars.toNat ≤ 40; omega,by have:=HC.out.2.sites; show s.sites.toNat ≤ 12; omega,by have:=HC.out.2.fields; show s.fields.toNat ≤ 5; omega,by show (s.cons.map R.C).length ≤ 101; rw [List.length_map]; exact HC.out.2.cons⟩
  obtain ⟨S,hS⟩ : ∃ S,S = s.S:=⟨_,rfl⟩
  rw [← hS] at hx hxl hxm hxp e1 hbN ⊢
  have HS:=Lib.hid hS
  clear hS
  have d0' : W2.cell? ⟨W.heap.size,0,none⟩ = some (.int .i64 (S.vars : Int)):=by rw [← e1]; exact (grownBy_below q2).cell d0 (by simp)
  have g2:=grownBy_below q2
  have p0' : W2.heap[W.heap.size + 1]? = W1.heap[W.heap.size + 1]?:=g2.block _ bsz (by simp)
  have p2 : W2.cell? ⟨W.heap.size + 1,0,none⟩ = some (.slice none 0 0):=g2.cell p0 (by simp)
  have p3 : W2.cell? ⟨W.heap.size + 1,1,none⟩ = some (.slice none 0 0):=g2.cell p1 (by simp)
  have f2 : W2.frozen? ⟨W.heap.size + 1,0,none⟩ = false:=by rw [World.frozen?_of_block (a:=⟨W.heap.size + 1,0,none⟩) p0']; exact f0
  have f3 : W2.frozen? ⟨W.heap.size + 1,1,none⟩ = false:=by rw [World.frozen?_of_block (a:=⟨W.heap.size + 1,1,none⟩) p0']; exact f1
  have bs2 : W.heap.size + 1 < W2.heap.size:=Nat.lt_of_lt_of_le bsz q2.size
  obtain ⟨xa2,xc2,he2,hxn,hxi,hxcell,hxb⟩:=hx.out1 sBits2
  simp only [Value.slice.injEq] at he2
  obtain ⟨rfl, -,rfl⟩:=he2
  rw [hxl] at hxn hxi hxcell hxb
  have HP:=Lib.hid (And.intro p2 (And.intro p3 (And.intro f2 (And.intro f3 (And.intro d0' (And.intro hB2 (And.intro bs2 (And.intro hxm (And.intro hxp (And.intro hxcell hxb))))))))))
  clear p2 p3 f2 f3 d0' hB2 bs2 hxm hxp hxcell hxb p0 p1 f0 f1 d0 d1 d2 d3 g2 p0' bsz q2 hx hxl e1
  go_wp2_with (at_make; refine wp_make (f:=fun x : Value => x) (.slice none 0 0) sInt2 rfl _ rfl _ _ rfl .i64 .i64 _ _ S.N rfl rfl rfl rfl (by omega) (by unfold maxLen; omega) ?_)
  intro la lc W3 o3 q3
  have hO3 : OwnN IInt W3 W2.heap.size 32 (.slice la S.N lc) (List.replicate S.N (.slice none 0 0)) (List.replicate S.N []):=OwnN.made o3 (Own.nil _ _ _ _)
  have H3:=Lib.hid (And.intro hO3 q3)
  obtain ⟨la2,lc2,he3, -,hli, -⟩:=o3.lst.out1 sInt2
  simp only [List.length_replicate,Value.slice.injEq] at he3
  obtain ⟨rfl, -,rfl⟩:=he3
  simp only [List.length_replicate] at hli
  clear hO3 q3 o3
  go_wp2_with fail
  go_loopw [7,8,22] (fun _ _ x wr => ∃ (k : Nat) (vs : List Value) (ll : List (List Int)),k ≤ S.N∧x = .int .i64 k∧Hid (OwnN IInt wr W2.heap.size 32 (.slice la S.N lc) vs ll∧ll.length = S.N∧(∀ i,i < k→IsSol S i (nth ll i))∧Below W2.heap.size W2 wr)) (fun _ _ x _ => S.N - (intOf x).toNat)
  case atStart => exact ⟨0,_,_,by omega,rfl,H3.out.1,by simp,fun i hi => by omega,H3.out.2⟩
  case round =>
   obtain ⟨k,vs,ll,hk,rfl,hh⟩:=hrel
   by_cases hlt : k < S.N
   ·have hck : wr.cell? ⟨blk xa,ofs xa + k,none⟩ = some (nth xs k):=by
     rw [hh.out.2.2.2.cell (p:=⟨blk xa,ofs xa + k,none⟩) (HP.out.2.2.2.2.2.2.2.2.2.2 k hlt)]
     exact HP.out.2.2.2.2.2.2.2.2.2.1 k hlt
    have hset : IsS (fun _ => 0) wr (nth xs k) _:=(HP.out.2.2.2.2.2.2.2.1 k hlt).bel hh.out.2.2.2
    have HSt:=Lib.hid hset
    clear hset
    go_wp2_with fail
    refine (List_S HSt.out).mono ?_
    rintro e W5 ⟨a5,c5,L,rfl,o5,mL,pL,lL,q5⟩
    have g5:=grownBy_below q5
    have hO5:=hh.out.1.below kInt q5
    have hkl : k < ll.length:=by rw [hh.out.2.1]; exact hlt
    have hkv : k < vs.length:=by rw [hh.out.1.len]; exact hkl
    obtain ⟨la2,lc2,he3, -, -,hcl5, -⟩:=hO5.out.lst.out1 sInt2
    simp only [Value.slice.injEq] at he3
    obtain ⟨rfl, -,rfl⟩:=he3
    have hc5:=hcl5 k hkv
    have hf5 : W5.frozen? ⟨blk la,ofs la + k,none⟩ = false:=hO5.out.frozen (by omega) _
    have hput:=OwnN.put kInt hh.out.1 hkl (u:=.slice a5 L.length c5) (l:=L.map fun x : Nat => (x : Int)) (grownBy_widen g5) (o5.mono hh.out.2.2.2.size) (fun k hk => .inr (o5.lt k hk).1)
    have hbl : W2.heap.size ≤ blk la:=(hh.out.1.out.blkge (by omega)).1
    have H5:=Lib.hid (And.intro hput (And.intro mL (And.intro pL ((hh.out.2.2.2.grown g5 hh.out.2.2.2.size (by simp)).setCell (show W2.heap.size ≤ (⟨blk la,ofs la + k,none⟩ : Addr).block from hbl) (.slice a5 L.length c5)))))
    clear hput mL pL o5 q5 g5 hO5 hcl5 hbl
    go_wp2_with fail
    go_roundw
    case rel => exact ⟨k + 1,_,_,by omega,by go_num,H5.out.1,by simp [hh.out.2.1],fun i hi => by
     rw [nth_set]
     by_cases e : k = i
     ·subst e
      rw [if_pos ⟨rfl,hkl⟩]
      exact ⟨L,rfl,H5.out.2.2.1,fun y => (H5.out.2.1 y).symm.trans (HP.out.2.2.2.2.2.2.2.2.1 _ _)⟩
     ·rw [if_neg (by omega)]
      exact hh.out.2.2.1 i (by omega),H5.out.2.2.2⟩
    case measure => simp [intOf]; omega
   ·obtain rfl : k = S.N:=by omega
    have hvN : S.vars ≤ vs.length:=by rw [hh.out.1.len,hh.out.2.1]; unfold Syst.N; omega
    obtain ⟨ua,uc,hcut,hua,hlu⟩:=hh.out.1.out.cutTo3 sInt2 S.vars hvN
    obtain ⟨u2,hcut2,hub,hsrc⟩:=hh.out.1.out.cutFrom sInt2 S.vars hvN
    have hone : ∀ y ∈ vs,y.oneCell' = true:=by
     intro y hy
     obtain ⟨i,hi,rfl⟩:=mem_nth hy
     obtain ⟨a9,c9,e9⟩:=(hh.out.1.inn i (by rw [← hh.out.1.len]; exact hi)).shape rfl
     rw [e9]; rfl
    have d0 : wr.cell? ⟨W.heap.size,0,none⟩ = some (.int .i64 (S.vars : Int)):=by rw [hh.out.2.2.2.cell (p:=⟨W.heap.size,0,none⟩) (by have:=HP.out.2.2.2.2.2.2.1; show W.heap.size < W2.heap.size; omega)]; exact HP.out.2.2.2.2.1
    have hsr:=hsrc wr hh.out.1.out
    have HQ:=Lib.hid (And.intro hh.out (And.intro hlu (And.intro hsr (And.intro hone (And.intro hub hua)))))
    clear hua hlu hsrc hsr hone hub hh hvN
    go_wp2_with fail
    refine wp_region_mix [0,1,2,3,4,5,6,7,8,9] [10,11,12,13] (fun w' => w'.cell? ⟨W.heap.size,0,none⟩ = some (.int .i64 (S.vars : Int))) (by kernel_rfl) (by kernel_rfl) (by kernel_rfl) d0 ?_
    repeat (
     refine wpHeads_cons (v:=?_) rfl (Or.inl ⟨by rfl, ?_⟩) ?_
     rotate_left
     ·(intro W hW; go_simp; try with_reducible rfl)
     simp only [Act.put,List.setIfInBounds_toArray])
    refine wpHeads_nil ?_
    refine wpTails_cons rfl ?_
    go_wp2_with fail
    refine (CloneG_any u2 (vs.drop S.vars) _ (HQ.out.2.2.1.grown (grownBy_drew0 _) (by simp)) (fun y hy => HQ.out.2.2.2.1 y (List.mem_of_mem_drop hy)) (by have h1:=HQ.out.1.1.len; have h2:=HQ.out.1.2.1; simp; omega)).mono ?_
    rintro e W6 ⟨ya,yc,rfl,hy,hyb,q6⟩
    have hyl : (vs.drop S.vars).length = S.sites * S.fields:=by
     have h1:=HQ.out.1.1.len
     have h2:=HQ.out.1.2.1
     rw [List.length_drop,h1,h2]; unfold Syst.N; omega
    rw [hyl] at hy hyb ⊢
    have g6 : wr.grownBy W6 none:=grownBy_trans (grownBy_drew0 _) (grownBy_below q6)
    have b6 : Below W2.heap.size W2 W6:=HQ.out.1.2.2.2.grown g6 HQ.out.1.2.2.2.size (by simp)
    have hlt1 : W.heap.size + 1 < W2.heap.size:=HP.out.2.2.2.2.2.2.1
    have p2 : W6.cell? ⟨W.heap.size + 1,0,none⟩ = some (.slice none 0 0):=by rw [b6.cell (p:=⟨W.heap.size + 1,0,none⟩) hlt1]; exact HP.out.1
    have p3 : W6.cell? ⟨W.heap.size + 1,1,none⟩ = some (.slice none 0 0):=by rw [b6.cell (p:=⟨W.heap.size + 1,1,none⟩) hlt1]; exact HP.out.2.1
    have hblk6:=b6.block (W.heap.size + 1) hlt1
    have f2 : W6.frozen? ⟨W.heap.size + 1,0,none⟩ = false:=by rw [World.frozen?_of_block (a:=⟨W.heap.size + 1,0,none⟩) hblk6]; exact HP.out.2.2.1
    have f3 : W6.frozen? ⟨W.heap.size + 1,1,none⟩ = false:=by rw [World.frozen?_of_block (a:=⟨W.heap.size + 1,1,none⟩) hblk6]; exact HP.out.2.2.2.1
    have dd : W6.cell? ⟨W.heap.size,0,none⟩ = some (.int .i64 (S.vars : Int)):=g6.cell d0 (by simp)
    have H6:=Lib.hid (And.intro hy (And.intro g6 (And.intro b6 hyb)))
    clear hyb hy g6 b6 q6 hblk6 hyl
    go_wp2_with fail
    refine tail_mk dd ?_
    refine wpTails_cons rfl ?_
    go_wp2_with fail
    refine tail_mk dd ?_
    refine wpTails_cons rfl ?_
    go_wp2_with fail
    refine tail_mk (by simp [World.cell?_setCell_other,dd]) ?_
    refine wpTails_one rfl ?_
    go_wp2_with fail
    refine thenQ_mk ?_
    go_wp2_with fail
    (try simp only [Exit.inBlock,Exit.then])
    refine bodyPost_ret (v:=.tuple #[.agg #[.slice ua S.vars uc,.slice ya (S.sites * S.fields) yc],.int .i64 0]) (by rw [results_cell_tmp rfl]; go_simp; try rfl) rfl ?_
    have gf:=grownBy_trans (grownBy_setCell W6 ⟨W.heap.size + 1,0,none⟩ (.slice ua S.vars uc)) (grownBy_setCell (W6.setCell ⟨W.heap.size + 1,0,none⟩ (.slice ua S.vars uc)) ⟨W.heap.size + 1,1,none⟩ (.slice ya (S.sites * S.fields) yc))
    have hOw:=HQ.out.1.1.grown kInt H6.out.2.1 (by simp)
    have hfoot : ∀ k,Foot (.slice la S.N lc) vs k→W2.heap.size ≤ k:=fun k hk => (hOw.foot kInt k hk).1
    have hl1:=HQ.out.1.1.len
    have hl2:=HQ.out.1.2.1
    have hNd : S.N = S.vars + S.sites * S.fields:=rfl
    have G1 : Grid (Value.int .i64) W6 (.slice ua S.vars uc) (vs.take S.vars) (ll.take S.vars):=by
     refine ⟨HQ.out.2.1 W6 hOw.out,by simp [hl1],fun i hi => ?_⟩
     have hi' : i < S.vars∧i < ll.length:=by simp at hi; omega
     rw [nth_take _ _ _ hi'.1,nth_take _ _ _ hi'.1]
     exact (hOw.inn i hi'.2).lst
    have G2 : Grid (Value.int .i64) W6 (.slice ya (S.sites * S.fields) yc) (vs.drop S.vars) (ll.drop S.vars):=by
     refine ⟨H6.out.1,by simp [hl1],fun i hi => ?_⟩
     have hi' : S.vars + i < ll.length:=by simp at hi; omega
     rw [nth_drop,nth_drop]
     exact (hOw.inn _ hi').lst
    have G1':=G1.grown gf (fun k hk => by
     have : W2.heap.size ≤ k:=by
      rcases hk with hk | ⟨i,hi,hk⟩
      ·exact hfoot k (.inl (HQ.out.2.2.2.2.2 k hk))
      ·have hi' : i < S.vars∧i < vs.length:=by simp at hi; omega
       rw [nth_take _ _ _ hi'.1] at hk
       exact hfoot k (.inr ⟨i,hi'.2,hk⟩)
     simp; omega)
    have G2':=G2.grown gf (fun k hk => by
     have : W2.heap.size ≤ k:=by
      rcases hk with hk | ⟨i,hi,hk⟩
      ·have h1:=H6.out.2.2.2 k hk
       have h2:=HQ.out.1.2.2.2.size
       exact Nat.le_trans h2 h1
      ·have hi' : S.vars + i < vs.length:=by simp at hi; omega
       rw [nth_drop] at hk
       exact hfoot k (.inr ⟨_,hi',hk⟩)
     simp; omega)
    refine .inr ⟨HV.out.1,ua,uc,ya,yc,ll.take S.vars,ll.drop S.vars,by rw [← HS.out],by rw [← HS.out]; exact ⟨⟨_,G1'⟩,⟨_,G2'⟩⟩,by rw [← HS.out]; exact ⟨by simp; omega,by simp; omega,fun i hi => by rw [nth_take _ _ _ hi]; exact HQ.out.1.2.2.1 i (by omega),fun i hi => by rw [nth_drop]; exact HQ.out.1.2.2.1 _ (by omega)⟩, ?_⟩
    have hb6 : Below W.heap.size W W6:=HP.out.2.2.2.2.2.1.trans (H6.out.2.2.1.mono (by omega))
    exact (hb6.setCell (show W.heap.size ≤ (⟨W.heap.size + 1,0,none⟩ : Addr).block by simp) _).setCell (show W.heap.size ≤ (⟨W.heap.size + 1,1,none⟩ : Addr).block by simp) _
 ·have hz : (chkCode s != 0) = true:=by simpa using h0
  have HZ:=Lib.hid h0
  generalize hcd : chkCode s = code at *
  have HCD:=Lib.hid hcd
  clear hcd h0
  go_wp2_with fail
  (try simp only [Exit.inBlock,Exit.then])
  refine bodyPost_ret (v:=.tuple #[.agg #[.slice none 0 0,.slice none 0 0],.int .i64 code]) (by rw [results_cell_tmp rfl]; go_simp; try rfl) rfl ?_
  refine .inl ⟨by rw [HCD.out]; exact HZ.out,by rw [HCD.out], ?_⟩
  exact (H1.out.2.setCell (show W.heap.size ≤ (⟨W.heap.size + 1,0,none⟩ : Addr).block by simp) _).setCell (show W.heap.size ≤ (⟨W.heap.size + 1,1,none⟩ : Addr).block by simp) _
end Go.Proofs.YtgblfjccccdidaaGreat
end
section
namespace Go.And
open Go.Dfl (nth nth_mem mem_nth nth_eq)
def winB (a b : List (List Int)) : Bool:=decide (a.length = b.length) && (List.range a.length).all fun i => (nth a i).all fun x => (nth b i).contains x
theorem winB_iff (a b : List (List Int)) : winB a b = true ↔ a.length = b.length∧∀ i,i < a.length→∀ x ∈ nth a i,x ∈ nth b i:=by
 unfold winB
 simp [List.all_eq_true]
def InR (ll : List (List Int)) : Prop:=∀ i,i < ll.length→∀ x ∈ nth ll i, -9223372036854775808 ≤ x∧x ≤ 9223372036854775807
end Go.And
namespace Go.Proofs.YtgblfjccccdidaaGreat
open Go.RowKit Go.Dfl Go.And Go.Maps
end Go.Proofs.YtgblfjccccdidaaGreat
end
section
namespace Go.Proofs.YtgblfjccccdidaaGreat
open Go.RowKit Go.Dfl Go.And
theorem below2' (W : World) (a b : Obj) : Below W.heap.size W ((W.alloc a).alloc b):=((Below.refl W.heap.size W).alloc (Nat.le_refl _) a).alloc (by simp) b
end Go.Proofs.YtgblfjccccdidaaGreat
end
section
namespace Go.And
open Go.Dfl (nth nth_mem mem_nth nth_eq nth_append)
structure ClosedP (s : Sy) (a1 a2 : List (List Int)) : Prop where
 chk : chkCode s = 0
 l1 : a1.length = s.S.vars
 l2 : a2.length = s.S.sites * s.S.fields
 ok : ∀ i,i < (a1 ++ a2).length→subB (nth (a1 ++ a2) i) s.sites = true∧ascB (nth (a1 ++ a2) i) = true
 shut : Shut s.S (fun i x => (x : Int) ∈ nth (a1 ++ a2) i)
end Go.And
namespace Go.Proofs.YtgblfjccccdidaaGreat
open Go.RowKit Go.Dfl Go.And
theorem _root_.Go.And.Sm.bnd {s : Sy} (h : Sm s) : Bnd s.S:=⟨by have:=h.vars; show s.vars.toNat ≤ 40; omega,by have:=h.sites; show s.sites.toNat ≤ 12; omega,by have:=h.fields; show s.fields.toNat ≤ 5; omega,by show (s.cons.map R.C).length ≤ 101; rw [List.length_map]; exact h.cons⟩
end Go.Proofs.YtgblfjccccdidaaGreat
end
section
namespace Go.Proofs.YtgblfjccccdidaaGreat
open Go.RowKit Go.Dfl Go.And
theorem sorted_ext : ∀ {L M : List Nat},L.Pairwise (· < ·)→M.Pairwise (· < ·)→(∀ x,x ∈ L ↔ x ∈ M)→L = M
 | [], [],_,_,_ => rfl
 | [],y :: M,_,_,h => by have:=(h y).2 (by simp); cases this
 | x :: L, [],_,_,h => by have:=(h x).1 (by simp); cases this
 | x :: L,y :: M,hL,hM,h => by
   rw [List.pairwise_cons] at hL hM
   have hxy : x = y:=by
    have h1:=(h x).1 (by simp)
    have h2:=(h y).2 (by simp)
    rcases List.mem_cons.1 h1 with e | e
    ·exact e
    ·rcases List.mem_cons.1 h2 with e2 | e2
     ·exact e2.symm
     ·have:=hM.1 x e; have:=hL.1 y e2; omega
   subst hxy
   rw [sorted_ext hL.2 hM.2 fun z => ?_]
   have:=h z
   constructor
   ·intro hz
    have hlt:=hL.1 z hz
    rcases List.mem_cons.1 (this.1 (by simp [hz])) with e | e
    ·omega
    ·exact e
   ·intro hz
    have hlt:=hM.1 z hz
    rcases List.mem_cons.1 (this.2 (by simp [hz])) with e | e
    ·omega
    ·exact e
theorem IsSol.unique {S : Syst} {i : Nat} {l m : List Int} (h : IsSol S i l) (k : IsSol S i m) : l = m:=by
 obtain ⟨L,rfl,h1,h2⟩:=h
 obtain ⟨M,rfl,k1,k2⟩:=k
 rw [sorted_ext h1 k1 fun x => by rw [h2,k2]]
theorem Sol.unique {S : Syst} {lu lv lu' lv' : List (List Int)} (h : Sol S lu lv) (k : Sol S lu' lv') : lu = lu'∧lv = lv':=by
 refine ⟨nth_ext (by rw [h.1,k.1]) fun i hi => (h.2.2.1 i (by rw [← h.1]; exact hi)).unique (k.2.2.1 i (by rw [← h.1]; exact hi)),nth_ext (by rw [h.2.1,k.2.1]) fun i hi => (h.2.2.2 i (by rw [← h.2.1]; exact hi)).unique (k.2.2.2 i (by rw [← h.2.1]; exact hi))⟩
theorem IsSol.mem {S : Syst} {i : Nat} {l : List Int} (h : IsSol S i l) (x : Int) : x ∈ l ↔ 0 ≤ x∧Pts S i x.toNat:=by
 obtain ⟨L,rfl, -,h2⟩:=h
 constructor
 ·intro hx
  obtain ⟨y,hy,rfl⟩:=List.mem_map.1 hx
  exact ⟨by omega,by simpa using (h2 y).1 hy⟩
 ·rintro ⟨h0,hx⟩
  exact List.mem_map.2 ⟨x.toNat,(h2 _).2 hx,by omega⟩
theorem IsSol.small {S : Syst} {i : Nat} {l : List Int} (h : IsSol S i l) (hS : S.Ok) (hs : S.sites ≤ 12) : (∀ x ∈ l,0 ≤ x∧x < S.sites)∧l.length ≤ 12:=by
 refine ⟨fun x hx => ?_, ?_⟩
 ·obtain ⟨h0,hp⟩:=(h.mem x).1 hx
  have:=(pts_bound hS hp).2
  omega
 ·obtain ⟨L,rfl,h1,h2⟩:=h
  rw [List.length_map]
  have:=sorted_len' h1 fun x hx => (pts_bound hS ((h2 x).1 hx)).2
  omega
theorem Sol.inR {S : Syst} {lu lv : List (List Int)} (h : Sol S lu lv) (hS : S.Ok) (hs : S.sites ≤ 12) : InR lu∧InR lv∧(∀ i,i < lu.length→(nth lu i).length ≤ 12)∧∀ i,i < lv.length→(nth lv i).length ≤ 12 :=
 ⟨fun i hi x hx => by have:=((h.2.2.1 i (by rw [← h.1]; exact hi)).small hS hs).1 x hx; omega,fun i hi x hx => by have:=((h.2.2.2 i (by rw [← h.2.1]; exact hi)).small hS hs).1 x hx; omega,
  fun i hi => ((h.2.2.1 i (by rw [← h.1]; exact hi)).small hS hs).2,fun i hi => ((h.2.2.2 i (by rw [← h.2.1]; exact hi)).small hS hs).2⟩
theorem PtsIn.below {W W' : World} {u v : Value} {a b : List (List Int)} (h : PtsIn W u v a b) (hb : Below W.heap.size W W') : PtsIn W' u v a b:=by
 obtain ⟨⟨us,h1⟩,vs,h2⟩:=h
 exact ⟨⟨us,h1.below hb⟩,vs,h2.below hb⟩
theorem PtsIn.shape {W : World} {u v : Value} {a b : List (List Int)} (h : PtsIn W u v a b) : ∃ ua uc va vc,u = .slice ua a.length uc∧v = .slice va b.length vc:=by
 obtain ⟨⟨us,h1⟩,vs,h2⟩:=h
 obtain ⟨ua,uc,e1, -⟩:=h1.1.out1 sInt2
 obtain ⟨va,vc,e2, -⟩:=h2.1.out1 sInt2
 rw [h1.2.1] at e1
 rw [h2.2.1] at e2
 exact ⟨ua,uc,va,vc,e1,e2⟩
def Tell (P : Prop) (W : World) (e : Ending) (W' : World) : Prop:=∃ b,e = .returned (.bool b)∧(b = true ↔ P)∧Below W.heap.size W W'
def ShortP (s : Sy) : Prop:=s.cons.length ≤ 100∧∀ i,i < s.cons.length→(nth s.cons i).s.length ≤ 40
def FewP (a1 a2 : List (List Int)) : Prop:=a1.length ≤ 50∧a2.length ≤ 70∧(∀ i,i < a1.length→(nth a1 i).length ≤ 40)∧∀ i,i < a2.length→(nth a2 i).length ≤ 40
set_option maxHeartbeats 1600000 in
theorem Short_any (s : Sy) (cv : Value) (W : World) (hc : ConsIn W cv s.cons) :
  Calls Tryz.prog 8 #[SysV s cv] W (Tell (ShortP s) W):=by
 obtain ⟨ca,cc,rfl,hlen,hci,hcc⟩:=hc.out
 have HC:=Lib.hid hcc
 clear hcc hc
 unfold SysV
 by_cases h1 : 100 < s.cons.length
 ·go_enter Tryz.func8,Tryz.ntmps8
  go_wp2_with fail
  go_ret
  exact ⟨false,rfl,⟨fun h => absurd h Bool.false_ne_true,fun h => by have:=h.1; omega⟩,(Below.refl _ _).alloc (Nat.le_refl _) _⟩
 ·go_enter Tryz.func8,Tryz.ntmps8
  go_wp2_with fail
  refine wp_gen (fun Z => BoxS Z W.heap.size s (.slice ca s.cons.length cc)∧Below W.heap.size W Z) ⟨BoxS.new _ _ _ _,(Below.refl _ _).alloc (Nat.le_refl _) _⟩ ?_
  rintro W1 ⟨⟨d0,d1,d2,d3⟩,hb1⟩
  have H1:=Lib.hid hb1
  clear hb1
  go_loop [3] (fun x => ∃ k : Nat,k ≤ s.cons.length∧x = .int .i64 k∧Hid (∀ i,i < k→(nth s.cons i).s.length ≤ 40)) (fun x => s.cons.length - (intOf x).toNat)
  case atStart => exact ⟨0,by omega,rfl,fun i hi => by omega⟩
  case round =>
   obtain ⟨k,hk,rfl,hh⟩:=hrel
   by_cases hlt : k < s.cons.length
   ·obtain ⟨sa,sn,sc, -, -, -, -,c4,hset,hbl⟩:=HC.out k hlt
    rw [← H1.out.cell (p:=⟨blk ca,ofs ca + k * 5 + 4,none⟩) hbl] at c4
    obtain ⟨sa2,sc2,he, -⟩:=hset.out1 sInt
    simp only [Value.slice.injEq] at he
    obtain ⟨rfl,rfl,rfl⟩:=he
    clear hset
    by_cases h2 : 40 < (nth s.cons k).s.length
    ·go_wp2_with fail
     go_ret
     exact ⟨false,rfl,⟨fun h => absurd h Bool.false_ne_true,fun h => by have:=h.2 k hlt; omega⟩,H1.out⟩
    ·go_wp2_with fail
     go_round
     case rel => exact ⟨k + 1,by omega,by go_num,fun i hi => by
      by_cases e : i = k
      ·subst e; omega
      ·exact hh.out i (by omega)⟩
     case measure => simp [intOf]; omega
   ·go_wp2_with fail
    go_ret
    exact ⟨true,rfl,⟨fun _ => ⟨by omega,fun i hi => hh.out i (by omega)⟩,fun _ => rfl⟩,H1.out⟩
set_option maxHeartbeats 1600000 in
theorem Few_any (u1 u2 : Value) (a1 a2 : List (List Int)) (W : World) (hu : PtsIn W u1 u2 a1 a2) :
  Calls Tryz.prog 13 #[.agg #[u1,u2]] W (Tell (FewP a1 a2) W):=by
 obtain ⟨⟨us1,hu1⟩,us2,hu2⟩:=hu
 obtain ⟨ua1,uc1,e1,hm1,hi1,hcl1,hb1⟩:=hu1.1.out1 sInt2
 obtain ⟨ua2,uc2,e2,hm2,hi2,hcl2,hb2⟩:=hu2.1.out1 sInt2
 rw [hu1.2.1] at e1 hm1 hi1 hcl1 hb1
 rw [hu2.2.1] at e2 hm2 hi2 hcl2 hb2
 subst e1 e2
 have HU:=Lib.hid (And.intro hu1 (And.intro hu2 (And.intro hcl1 (And.intro hb1 (And.intro hcl2 hb2)))))
 clear hu1 hu2 hcl1 hb1 hcl2 hb2
 have hpn:=cells_new (W:=W) (cs:=[.slice ua1 a1.length uc1,.slice ua2 a2.length uc2]) (t:=34) rfl
 have d0':=hpn 0 _ rfl
 have d1':=hpn 1 _ rfl
 have HD:=Lib.hid (And.intro d0' d1')
 clear hpn d0' d1'
 by_cases h1 : 50 < a1.length
 ·go_enter Tryz.func13,Tryz.ntmps13
  go_wp2_with fail
  go_ret
  exact ⟨false,rfl,⟨fun h => absurd h Bool.false_ne_true,fun h => by have:=h.1; omega⟩,(Below.refl _ _).alloc (Nat.le_refl _) _⟩
 ·by_cases h2 : 70 < a2.length
  ·go_enter Tryz.func13,Tryz.ntmps13
   go_wp2_with fail
   go_ret
   exact ⟨false,rfl,⟨fun h => absurd h Bool.false_ne_true,fun h => by have:=h.2.1; omega⟩,(Below.refl _ _).alloc (Nat.le_refl _) _⟩
  ·go_enter Tryz.func13,Tryz.ntmps13
   go_wp2_with fail
   refine wp_gen (fun Z => Z.cell? ⟨W.heap.size,0,none⟩ = some (.slice ua1 a1.length uc1)∧Z.cell? ⟨W.heap.size,1,none⟩ = some (.slice ua2 a2.length uc2)∧Below W.heap.size W Z) ⟨HD.out.1,HD.out.2,(Below.refl _ _).alloc (Nat.le_refl _) _⟩ ?_
   rintro W1 ⟨d0,d1,hb1⟩
   have H1:=Lib.hid hb1
   clear hb1
   go_loop [3] (fun x => ∃ k : Nat,k ≤ a1.length∧x = .int .i64 k∧Hid (∀ i,i < k→(nth a1 i).length ≤ 40)) (fun x => a1.length - (intOf x).toNat)
   case atStart => exact ⟨0,by omega,rfl,fun i hi => by omega⟩
   case round =>
    obtain ⟨k,hk,rfl,hh⟩:=hrel
    by_cases hlt : k < a1.length
    ·obtain ⟨ea,ec,he, -⟩:=(HU.out.1.2.2 k hlt).out1 sInt
     have hck : W1.cell? ⟨blk ua1,ofs ua1 + k,none⟩ = some (.slice ea (nth a1 k).length ec):=by rw [H1.out.cell (p:=⟨blk ua1,ofs ua1 + k,none⟩) (HU.out.2.2.2.1 k hlt), ← he]; exact HU.out.2.2.1 k hlt
     by_cases h2 : 40 < (nth a1 k).length
     ·go_wp2_with fail
      go_ret
      exact ⟨false,rfl,⟨fun h => absurd h Bool.false_ne_true,fun h => by have:=h.2.2.1 k hlt; omega⟩,H1.out⟩
     ·go_wp2_with fail
      go_round
      case rel => exact ⟨k + 1,by omega,by go_num,fun i hi => by
       by_cases e : i = k
       ·subst e; omega
       ·exact hh.out i (by omega)⟩
      case measure => simp [intOf]; omega
    ·have HE : Hid (∀ i,i < a1.length→(nth a1 i).length ≤ 40):=fun i hi => hh.out i (by omega)
     clear hh
     go_wp2_with fail
     go_loop [4] (fun x => ∃ k : Nat,k ≤ a2.length∧x = .int .i64 k∧Hid (∀ i,i < k→(nth a2 i).length ≤ 40)) (fun x => a2.length - (intOf x).toNat)
     case atStart => exact ⟨0,by omega,rfl,fun i hi => by omega⟩
     case round =>
      obtain ⟨k,hk,rfl,hh⟩:=hrel
      by_cases hlt : k < a2.length
      ·obtain ⟨ea,ec,he, -⟩:=(HU.out.2.1.2.2 k hlt).out1 sInt
       have hck : W1.cell? ⟨blk ua2,ofs ua2 + k,none⟩ = some (.slice ea (nth a2 k).length ec):=by rw [H1.out.cell (p:=⟨blk ua2,ofs ua2 + k,none⟩) (HU.out.2.2.2.2.2 k hlt), ← he]; exact HU.out.2.2.2.2.1 k hlt
       by_cases h2 : 40 < (nth a2 k).length
       ·go_wp2_with fail
        go_ret
        exact ⟨false,rfl,⟨fun h => absurd h Bool.false_ne_true,fun h => by have:=h.2.2.2 k hlt; omega⟩,H1.out⟩
       ·go_wp2_with fail
        go_round
        case rel => exact ⟨k + 1,by omega,by go_num,fun i hi => by
         by_cases e : i = k
         ·subst e; omega
         ·exact hh.out i (by omega)⟩
        case measure => simp [intOf]; omega
      ·go_wp2_with fail
       go_ret
       exact ⟨true,rfl,⟨fun _ => ⟨by omega,by omega,HE.out,fun i hi => hh.out i (by omega)⟩,fun _ => rfl⟩,H1.out⟩
end Go.Proofs.YtgblfjccccdidaaGreat
end
section
namespace Go.And
open Go.Dfl (nth nth_mem mem_nth nth_eq)
def amB (x n : Int) : Bool:=decide (0 ≤ x) && decide (x < n)
def partB (a b : List Int) : Bool:=a.all fun x => b.contains x
theorem partB_iff (a b : List Int) : partB a b = true ↔ ∀ i,i < a.length→nth a i ∈ b:=by
 unfold partB
 simp only [List.all_eq_true,List.contains_iff_mem]
 exact ⟨fun h i hi => h _ (nth_mem _ _ hi),fun h x hx => by obtain ⟨i,hi,rfl⟩:=mem_nth hx; exact h i hi⟩
theorem winB_part (a b : List (List Int)) : winB a b = true ↔ a.length = b.length∧∀ i,i < a.length→partB (nth a i) (nth b i) = true:=by
 rw [winB_iff]
 refine and_congr_right fun _ => forall_congr' fun i => forall_congr' fun _ => ?_
 rw [partB_iff]
 exact ⟨fun h j hj => h _ (nth_mem _ _ hj),fun h x hx => by obtain ⟨j,hj,rfl⟩:=mem_nth hx; exact h j hj⟩
end Go.And
namespace Go.Proofs.YtgblfjccccdidaaGreat
open Go.RowKit Go.Dfl Go.And
set_option maxHeartbeats 400000 in
theorem rAmong_any (x n : Int) (w : World) :
  Calls Tryz.prog 115 #[.int .i64 x,.int .i64 n] w fun e w' => e = .returned (.bool (amB x n))∧Qt w w':=by
 by_cases h1 : 0 ≤ x
 ·by_cases h2 : x < n
  ·go_enter Tryz.func115,Tryz.ntmps115
   go_wp2_with fail
   go_ret
   exact ⟨ret_bool (by simp [amB,h1,h2]),Qt.refl _⟩
  ·go_enter Tryz.func115,Tryz.ntmps115
   go_wp2_with fail
   go_ret
   exact ⟨ret_bool (by simp [amB,h1,h2]),Qt.refl _⟩
 ·go_enter Tryz.func115,Tryz.ntmps115
  go_wp2_with fail
  go_ret
  exact ⟨ret_bool (by simp [amB]; omega),Qt.refl _⟩
set_option maxHeartbeats 400000 in
theorem rHas_any (v : Value) (l : List Int) (x : Int) (w : World) (h : Ints w v l) :
  Calls Tryz.prog 116 #[v,.int .i64 x] w fun e w' => e = .returned (.bool (l.contains x))∧Qt w w':=by
 obtain ⟨a,cap,rfl,hm,hidx,hcell,_⟩:=h.out1 sInt
 clear h
 go_enter Tryz.func116,Tryz.ntmps116
 go_wp2_with fail
 go_loopw [5] (fun i wr => ∃ k : Nat,k ≤ l.length∧i = .int .i64 k∧Qt w wr∧Hid (∀ i,i < k→nth l i ≠ x)) (fun i _ => l.length - (intOf i).toNat)
 case atStart => exact ⟨0,by omega,rfl,Qt.refl _,fun i hi => by omega⟩
 case round =>
  obtain ⟨k,hk,rfl,⟨nw,rfl⟩,hch⟩:=hrel
  by_cases hlt : k < l.length
  ·have hck:=hcell k hlt
   by_cases h1 : nth l k = x
   ·have hd : (nth l k == x) = true:=by simpa using h1
    have HX:=Lib.hid h1
    clear h1
    go_wp2_with fail
    go_ret
    exact ⟨ret_bool (by symm; rw [List.contains_iff_mem, ← HX.out]; exact nth_mem _ _ hlt),(by first | exact Qt.refl _ | exact Qt.drewN _ _ | exact (Qt.drewN _ _).trans (Qt.drewN _ _) | exact ((Qt.drewN _ _).trans (Qt.drewN _ _)).trans (Qt.drewN _ _) | exact Qt.drew _ | exact (Qt.drewN _ _).trans (Qt.drew _))⟩
   ·have hd : (nth l k == x) = false:=by simpa using h1
    have HX:=Lib.hid h1
    clear h1
    go_wp2_with fail
    go_roundw
    case rel => exact ⟨k + 1,by omega,by go_num,(by first | exact Qt.refl _ | exact Qt.drewN _ _ | exact (Qt.drewN _ _).trans (Qt.drewN _ _) | exact ((Qt.drewN _ _).trans (Qt.drewN _ _)).trans (Qt.drewN _ _) | exact Qt.drew _ | exact (Qt.drewN _ _).trans (Qt.drew _)),fun i hi => by
     by_cases e : i = k
     ·subst e; exact HX.out
     ·exact hch.out i (by omega)⟩
    case measure => simp [intOf]; omega
  ·obtain rfl : k = l.length:=by omega
   go_wp2_with fail
   go_ret
   refine ⟨ret_bool ?_,(by first | exact Qt.refl _ | exact Qt.drewN _ _ | exact (Qt.drewN _ _).trans (Qt.drewN _ _) | exact ((Qt.drewN _ _).trans (Qt.drewN _ _)).trans (Qt.drewN _ _) | exact Qt.drew _ | exact (Qt.drewN _ _).trans (Qt.drew _))⟩
   symm
   rw [Bool.eq_false_iff]
   intro hh
   rw [List.contains_iff_mem] at hh
   obtain ⟨i,hi,e⟩:=mem_nth hh
   exact hch.out i hi e
set_option maxHeartbeats 400000 in
theorem rPart_any (u v : Value) (a b : List Int) (w : World) (hu : Ints w u a) (hv : Ints w v b) :
  Calls Tryz.prog 90 #[u,v] w fun e w' => e = .returned (.bool (partB a b))∧Qt w w':=by
 obtain ⟨ua,uc,rfl,hm,hidx,hcell,_⟩:=hu.out1 sInt
 have HV:=Lib.hid hv
 clear hu hv
 go_enter Tryz.func90,Tryz.ntmps90
 go_wp2_with fail
 go_loopw [5] (fun i wr => ∃ k : Nat,k ≤ a.length∧i = .int .i64 k∧Qt w wr∧Hid (∀ i,i < k→nth a i ∈ b)) (fun i _ => a.length - (intOf i).toNat)
 case atStart => exact ⟨0,by omega,rfl,Qt.refl _,fun i hi => by omega⟩
 case round =>
  obtain ⟨k,hk,rfl,⟨nw,rfl⟩,hch⟩:=hrel
  by_cases hlt : k < a.length
  ·have hck:=hcell k hlt
   go_wp2_with fail
   refine (rHas_any v b (nth a k) _ (HV.out.qt (Qt.drewN _ _))).mono ?_
   rintro e W1 ⟨rfl,n1,rfl⟩
   obtain ⟨c,hc⟩ : ∃ c,c = b.contains (nth a k):=⟨_,rfl⟩
   rw [← hc]
   have HCn:=Lib.hid hc
   clear hc
   cases c
   ·go_wp2_with fail
    go_ret
    refine ⟨ret_bool ?_,(by first | exact Qt.refl _ | exact Qt.drewN _ _ | exact (Qt.drewN _ _).trans (Qt.drewN _ _) | exact ((Qt.drewN _ _).trans (Qt.drewN _ _)).trans (Qt.drewN _ _) | exact Qt.drew _ | exact (Qt.drewN _ _).trans (Qt.drew _))⟩
    symm
    rw [Bool.eq_false_iff]
    intro hh
    have h1:=(partB_iff _ _).1 hh k hlt
    rw [← List.contains_iff_mem, ← HCn.out] at h1
    cases h1
   ·go_wp2_with fail
    go_roundw
    case rel => exact ⟨k + 1,by omega,by go_num,(by first | exact Qt.refl _ | exact Qt.drewN _ _ | exact (Qt.drewN _ _).trans (Qt.drewN _ _) | exact ((Qt.drewN _ _).trans (Qt.drewN _ _)).trans (Qt.drewN _ _) | exact Qt.drew _ | exact (Qt.drewN _ _).trans (Qt.drew _)),fun i hi => by
     by_cases e : i = k
     ·subst e; exact List.contains_iff_mem.1 HCn.out.symm
     ·exact hch.out i (by omega)⟩
    case measure => simp [intOf]; omega
  ·obtain rfl : k = a.length:=by omega
   go_wp2_with fail
   go_ret
   exact ⟨ret_bool ((partB_iff _ _).2 hch.out).symm,(by first | exact Qt.refl _ | exact Qt.drewN _ _ | exact (Qt.drewN _ _).trans (Qt.drewN _ _) | exact ((Qt.drewN _ _).trans (Qt.drewN _ _)).trans (Qt.drewN _ _) | exact Qt.drew _ | exact (Qt.drewN _ _).trans (Qt.drew _))⟩
set_option maxHeartbeats 800000 in
theorem rLists_any (u v : Value) (us vs : List Value) (a b : List (List Int)) (w : World) (hu : Grid (Value.int .i64) w u us a) (hv : Grid (Value.int .i64) w v vs b) :
  Calls Tryz.prog 58 #[u,v] w fun e w' => e = .returned (.bool (winB a b))∧Qt w w':=by
 have HU:=Lib.hid (And.intro hu hv)
 have hla:=hu.2.1
 have hlb:=hv.2.1
 obtain ⟨ua,uc,rfl,hm,hui,huc, -⟩:=hu.1.out1 sInt2
 obtain ⟨va,vc,rfl,hm',hvi,hvc, -⟩:=hv.1.out1 sInt2
 rw [hla] at hm hui huc ⊢
 rw [hlb] at hm' hvi hvc ⊢
 clear hu hv hla hlb
 by_cases hlen : a.length = b.length
 ·have hd : ((a.length : Int) != (b.length : Int)) = false:=by simp; omega
  have Hlen:=Lib.hid hlen
  have hle : a.length ≤ b.length:=by omega
  clear hlen
  go_enter Tryz.func58,Tryz.ntmps58
  go_wp2_with fail
  go_loopw [5] (fun i wr => ∃ k : Nat,k ≤ a.length∧i = .int .i64 k∧Qt w wr∧Hid (∀ i,i < k→partB (nth a i) (nth b i) = true)) (fun i _ => a.length - (intOf i).toNat)
  case atStart => exact ⟨0,by omega,rfl,by exact (by first | exact Qt.refl _ | exact Qt.drewN _ _ | exact (Qt.drewN _ _).trans (Qt.drewN _ _) | exact ((Qt.drewN _ _).trans (Qt.drewN _ _)).trans (Qt.drewN _ _) | exact Qt.drew _ | exact (Qt.drewN _ _).trans (Qt.drew _)),fun i hi => by omega⟩
  case round =>
   obtain ⟨k,hk,rfl,⟨nw,rfl⟩,hch⟩:=hrel
   by_cases hlt : k < a.length
   ·have hkb : (k : Int) < (b.length : Int):=by omega
    have hca:=huc k hlt
    have hcb:=hvc k (by omega)
    have hcall : ∀ n,Calls Tryz.prog 90 #[nth us k,nth vs k] (w.drewN n) fun e w' => e = .returned (.bool (partB (nth a k) (nth b k)))∧Qt (w.drewN n) w':=fun n => rPart_any _ _ _ _ _ ((HU.out.1.2.2 k hlt).qt (Qt.drewN _ _)) ((HU.out.2.2.2 k (by omega)).qt (Qt.drewN _ _))
    obtain ⟨c,hc⟩ : ∃ c,c = partB (nth a k) (nth b k):=⟨_,rfl⟩
    rw [← hc] at hcall
    have HCall:=Lib.hid hcall
    have HCn:=Lib.hid hc
    clear hc hcall
    cases c
    ·go_wp2_with fail
     go_quiet ((go_at_call 90; exact Qt.quiet2 (HCall.out _)))
     go_wp2_with fail
     go_ret
     refine ⟨ret_bool ?_,(by first | exact Qt.refl _ | exact Qt.drewN _ _ | exact (Qt.drewN _ _).trans (Qt.drewN _ _) | exact ((Qt.drewN _ _).trans (Qt.drewN _ _)).trans (Qt.drewN _ _) | exact Qt.drew _ | exact (Qt.drewN _ _).trans (Qt.drew _))⟩
     symm
     rw [Bool.eq_false_iff]
     intro hh
     have h1:=((winB_part _ _).1 hh).2 k hlt
     rw [← HCn.out] at h1
     cases h1
    ·go_wp2_with fail
     go_quiet ((go_at_call 90; exact Qt.quiet2 (HCall.out _)))
     go_wp2_with fail
     go_roundw
     case rel => exact ⟨k + 1,by omega,by go_num,(by first | exact Qt.refl _ | exact Qt.drewN _ _ | exact (Qt.drewN _ _).trans (Qt.drewN _ _) | exact ((Qt.drewN _ _).trans (Qt.drewN _ _)).trans (Qt.drewN _ _) | exact Qt.drew _ | exact (Qt.drewN _ _).trans (Qt.drew _)),fun i hi => by
      by_cases e : i = k
      ·subst e; exact HCn.out.symm
      ·exact hch.out i (by omega)⟩
     case measure => simp [intOf]; omega
   ·obtain rfl : k = a.length:=by omega
    go_wp2_with fail
    go_ret
    exact ⟨ret_bool ((winB_part _ _).2 ⟨Hlen.out,hch.out⟩).symm,(by first | exact Qt.refl _ | exact Qt.drewN _ _ | exact (Qt.drewN _ _).trans (Qt.drewN _ _) | exact ((Qt.drewN _ _).trans (Qt.drewN _ _)).trans (Qt.drewN _ _) | exact Qt.drew _ | exact (Qt.drewN _ _).trans (Qt.drew _))⟩
 ·have hd : ((a.length : Int) != (b.length : Int)) = true:=by simp; omega
  have Hlen:=Lib.hid hlen
  clear hlen
  go_enter Tryz.func58,Tryz.ntmps58
  go_wp2_with fail
  go_ret
  refine ⟨ret_bool ?_,(by first | exact Qt.refl _ | exact Qt.drewN _ _ | exact (Qt.drewN _ _).trans (Qt.drewN _ _) | exact ((Qt.drewN _ _).trans (Qt.drewN _ _)).trans (Qt.drewN _ _) | exact Qt.drew _ | exact (Qt.drewN _ _).trans (Qt.drew _))⟩
  symm
  rw [Bool.eq_false_iff]
  intro hh
  exact Hlen.out ((winB_part _ _).1 hh).1
set_option maxHeartbeats 1600000 in
theorem rWithin_any (u1 u2 v1 v2 : Value) (a1 a2 b1 b2 : List (List Int)) (W : World) (hu : PtsIn W u1 u2 a1 a2) (hv : PtsIn W v1 v2 b1 b2) :
  Calls Tryz.prog 38 #[.agg #[u1,u2],.agg #[v1,v2]] W fun e W' => e = .returned (.bool (winB a1 b1 && winB a2 b2))∧Below W.heap.size W W':=by
 obtain ⟨⟨us1,hu1⟩,us2,hu2⟩:=hu
 obtain ⟨⟨vs1,hv1⟩,vs2,hv2⟩:=hv
 have hb0 : Below W.heap.size W _:=((Below.refl W.heap.size W).alloc (Nat.le_refl _) (.cells #[u1,u2] 34)).alloc (by simp) (.cells #[v1,v2] 34)
 have HB:=Lib.hid hb0
 have HU:=Lib.hid (And.intro hu1 (And.intro hu2 (And.intro hv1 hv2)))
 obtain ⟨ua1,uc1,e1, -⟩:=hu1.1.out1 sInt2
 obtain ⟨ua2,uc2,e2, -⟩:=hu2.1.out1 sInt2
 obtain ⟨va1,vc1,e3, -⟩:=hv1.1.out1 sInt2
 obtain ⟨va2,vc2,e4, -⟩:=hv2.1.out1 sInt2
 subst e1 e2 e3 e4
 clear hu1 hu2 hv1 hv2 hb0
 go_enter Tryz.func38,Tryz.ntmps38
 go_wp2_with fail
 refine (rLists_any _ _ us1 vs1 a1 b1 _ (HU.out.1.below HB.out) (HU.out.2.2.1.below HB.out)).mono ?_
 rintro e W1 ⟨rfl,n1,rfl⟩
 cases hw : winB a1 b1
 ·go_wp2_with fail
  go_ret
  exact ⟨ret_bool (by simp [hw]),below_drewN HB.out _⟩
 ·go_wp2_with fail
  refine (rLists_any _ _ us2 vs2 a2 b2 _ ((HU.out.2.1.below HB.out).qt (Qt.drewN _ _)) ((HU.out.2.2.2.below HB.out).qt (Qt.drewN _ _))).mono ?_
  rintro e W2 ⟨rfl,n2,rfl⟩
  go_wp2_with fail
  go_ret
  exact ⟨ret_bool (by simp [hw]),below_drewN HB.out _⟩
end Go.Proofs.YtgblfjccccdidaaGreat
end
section
namespace Go.Proofs.YtgblfjccccdidaaGreat
open Go.RowKit Go.Dfl Go.And
theorem sIntC : SliceOf Tryz.prog 32 3 (.int .i64 0) 1 8:=⟨Tryz.underlying32,info_parts (P:=Tryz.prog) (e:=3) (by kernel_rfl)⟩
set_option maxHeartbeats 800000 in
theorem CloneI_any (u : Value) (l : List Int) (W : World) (h : Ints W u l) (hl : l.length ≤ 1000000) :
  Calls Tryz.prog 31 #[u] W fun e W' => ∃ a c,e = .returned (.slice a l.length c)∧OwnI W' W.heap.size 3 (.slice a l.length c) l∧Below W.heap.size W W':=by
 have hs:=h.src
 have HS:=Lib.hid hs
 have hnil : ∀ (w : World) (a : Option Addr) (n c : Nat),(binOp .eql 32 (.slice a n c) (.slice none 0 0)).run Tryz.prog w = .ok (.bool a.isNone) w:=fun w a n c => Lib.run_eql_slice_nil w _ _ a n c 0 0 Tryz.underlying32
 obtain ⟨a,c,rfl,h2, -⟩:=hs
 clear h
 cases a with
 | none =>
   have h0:=h2 rfl
   have hv : l = []:=List.length_eq_zero_iff.1 h0
   subst hv
   clear h2 h0
   go_enter Tryz.func31,Tryz.ntmps31
   go_wp2_with fail
   go_ret
   exact ⟨none,0,rfl,Own.nil _ _ _ _,Below.refl _ _⟩
 | some ad =>
   clear h2
   go_enter Tryz.func31,Tryz.ntmps31
   go_wp2_with (at_builtin; refine wp_appendS (f:=Value.int .i64) sIntC rfl rfl _ _ rfl W.heap.size (.slice (some ⟨W.heap.size,0,none⟩) 0 0) [] rfl (.slice (some ad) l.length c) l rfl (own_empty _ rfl (Nat.le_refl _)) (HS.out.grown (grownBy_alloc _ _) (by simp)) (fun _ _ => rfl) (by simp; omega) (by omega) (by simp) ?_; intro v' W' ho hg hloc)
   obtain ⟨s9,c9,rfl⟩:=ho.shape (n:=l.length) (by simp)
   have hb : Below W.heap.size W W':=((Below.refl W.heap.size W).alloc (Nat.le_refl _) _).grown hg (by simp) (by simp [Value.ownBlock])
   have HO:=Lib.hid (And.intro ho hb)
   clear ho hg hloc hb
   go_wp2_with fail
   go_ret
   exact ⟨s9,c9,rfl,by simpa using HO.out.1,HO.out.2⟩
section
variable {bo : Nat} {u v : Value} {us vs : List Value} {lu lv : List (List Int)} {W0 W W' : World}
theorem two_push {B : Nat} (ou : OwnN IInt W B 32 u us lu) (ov : OwnN IInt W B 32 v vs lv) (sep : ∀ k,Foot u us k→¬ Foot v vs k) {x u' : Value} {l : List Int} (hx : IInt W B x l) (hn : ∀ k,x.ownBlock = some k→¬ Foot u us k∧¬ Foot v vs k)
  (ho : Own (fun x : Value => x) W' B 32 u' (us ++ [x])) (hg : W.grownBy W' u.ownBlock) (hl : u'.ownBlock = u.ownBlock ∨ u'.ownBlock = some W.heap.size) :
  OwnN IInt W' B 32 u' (us ++ [x]) (lu ++ [l])∧OwnN IInt W' B 32 v vs lv∧∀ k,Foot u' (us ++ [x]) k→¬ Foot v vs k:=by
 refine ⟨ou.push kInt ho hg hl hx fun k hk => (hn k hk).1,ov.grown kInt hg fun k hk => sep k (.inl hk),fun k hk => ?_⟩
 rcases hk with hk | ⟨i,hi,hk⟩
 ·rcases hl with e | e
  ·exact sep k (.inl (by rw [← e]; exact hk))
  ·rw [e] at hk
   simp only [Option.some.injEq] at hk
   intro h9
   have:=(ov.foot kInt k h9).2
   omega
 ·rw [nth_append] at hk
  split at hk
  ·rename_i h9; exact sep k (.inr ⟨i,h9,hk⟩)
  ·have : i - us.length = 0:=by simp at hi; omega
   rw [this] at hk
   exact (hn k hk).2
structure ExM (bo : Nat) (u v : Value) (us vs : List Value) (lu lv : List (List Int)) (W0 W : World) : Prop where
 c0 : W.cell? ⟨bo,0,none⟩ = some u
 c1 : W.cell? ⟨bo,1,none⟩ = some v
 frz : ∀ j,W.frozen? ⟨bo,j,none⟩ = false
 ou : OwnN IInt W (bo + 1) 32 u us lu
 ov : OwnN IInt W (bo + 1) 32 v vs lv
 sep : ∀ k,Foot u us k→¬ Foot v vs k
 bel : Below bo W0 W
theorem ExM.new (W : World) (t : TypeId) : ExM W.heap.size (.slice none 0 0) (.slice none 0 0) [] [] [] [] W (W.alloc (.cells #[.slice none 0 0,.slice none 0 0] t)):=by
 have hn:=cells_new (W:=W) (cs:=[.slice none 0 0,.slice none 0 0]) (t:=t) rfl
 refine ⟨hn 0 _ rfl,hn 1 _ rfl,fun j => ?_,OwnN.empty _ _ _,OwnN.empty _ _ _,fun k hk => ?_,(Below.refl _ _).alloc (Nat.le_refl _) _⟩
 ·have hb:=heap_alloc_new W (.cells #[.slice none 0 0,.slice none 0 0] t)
  simp only [World.frozen?,hb]
  first | rfl | simp
 ·rcases hk with hk | ⟨i,hi, -⟩
  ·simp [Value.ownBlock] at hk
  ·simp at hi
theorem ExM.lt (h : ExM bo u v us vs lu lv W0 W) : bo < W.heap.size:=World.block_lt_of_cell? W _ h.c0
theorem ExM.grown (h : ExM bo u v us vs lu lv W0 W) (hg : W.grownBy W' none) : ExM bo u v us vs lu lv W0 W' :=
 ⟨hg.cell h.c0 (by simp),hg.cell h.c1 (by simp),fun j => by rw [World.frozen?_of_block (a:=⟨bo,j,none⟩) (hg.block bo h.lt (by simp))]; exact h.frz j,h.ou.grown kInt hg (by simp),h.ov.grown kInt hg (by simp),h.sep,h.bel.grown hg (by have:=h.lt; omega) (by simp)⟩
theorem ExM.in0 (h : ExM bo u v us vs lu lv W0 W) : ∀ k,u.ownBlock = some k→bo + 1 ≤ k∧k < W.heap.size:=fun k hk => h.ou.foot kInt k (.inl hk)
theorem ExM.in1 (h : ExM bo u v us vs lu lv W0 W) : ∀ k,v.ownBlock = some k→bo + 1 ≤ k∧k < W.heap.size:=fun k hk => h.ov.foot kInt k (.inl hk)
theorem ExM.push0 (h : ExM bo u v us vs lu lv W0 W) {x u' : Value} {l : List Int} (hx : IInt W (bo + 1) x l) (hn : ∀ k,x.ownBlock = some k→¬ Foot u us k∧¬ Foot v vs k)
  (ho : Own (fun x : Value => x) W' (bo + 1) 32 u' (us ++ [x])) (hg : W.grownBy W' u.ownBlock) (hl : u'.ownBlock = u.ownBlock ∨ u'.ownBlock = some W.heap.size) :
  (W'.cell? ⟨bo,0,none⟩ = some u∧W'.frozen? ⟨bo,0,none⟩ = false)∧ExM bo u' v (us ++ [x]) vs (lu ++ [l]) lv W0 (W'.setCell ⟨bo,0,none⟩ u'):=by
 obtain ⟨n1,n2,n3⟩:=two_push h.ou h.ov h.sep hx hn ho hg hl
 have nb : some bo ≠ u.ownBlock:=fun e => by have:=(h.in0 bo e.symm).1; omega
 have gs:=grownBy_setCell W' ⟨bo,0,none⟩ u'
 have hfr : ∀ j,W'.frozen? ⟨bo,j,none⟩ = false:=fun j => by rw [World.frozen?_of_block (a:=⟨bo,j,none⟩) (hg.block bo h.lt nb)]; exact h.frz j
 have c0:=hg.cell h.c0 nb
 refine ⟨⟨c0,hfr 0⟩,World.cell?_setCell_same W' _ _ c0, ?_,fun j => by rw [World.frozen?_setCell]; exact hfr j,n1.grown kInt gs fun k hk hf => ?_,n2.grown kInt gs fun k hk hf => ?_,n3,(h.bel.grown hg (by have:=h.lt; omega) fun k hk => by have:=(h.in0 k hk).1; omega).setCell (show bo ≤ (⟨bo,0,none⟩ : Addr).block from Nat.le_refl _) _⟩
 ·rw [World.cell?_setCell_other _ _ _ _ (by intro e; simp at e)]; exact hg.cell h.c1 nb
 ·have:=(n1.foot kInt k hf).1; simp at hk; omega
 ·have:=(n2.foot kInt k hf).1; simp at hk; omega
theorem ExM.push1 (h : ExM bo u v us vs lu lv W0 W) {x v' : Value} {l : List Int} (hx : IInt W (bo + 1) x l) (hn : ∀ k,x.ownBlock = some k→¬ Foot u us k∧¬ Foot v vs k)
  (ho : Own (fun x : Value => x) W' (bo + 1) 32 v' (vs ++ [x])) (hg : W.grownBy W' v.ownBlock) (hl : v'.ownBlock = v.ownBlock ∨ v'.ownBlock = some W.heap.size) :
  (W'.cell? ⟨bo,1,none⟩ = some v∧W'.frozen? ⟨bo,1,none⟩ = false)∧ExM bo u v' us (vs ++ [x]) lu (lv ++ [l]) W0 (W'.setCell ⟨bo,1,none⟩ v'):=by
 obtain ⟨n1,n2,n3⟩:=two_push h.ov h.ou (fun k hk hf => h.sep k hf hk) hx (fun k hk => (hn k hk).symm) ho hg hl
 have nb : some bo ≠ v.ownBlock:=fun e => by have:=(h.in1 bo e.symm).1; omega
 have gs:=grownBy_setCell W' ⟨bo,1,none⟩ v'
 have hfr : ∀ j,W'.frozen? ⟨bo,j,none⟩ = false:=fun j => by rw [World.frozen?_of_block (a:=⟨bo,j,none⟩) (hg.block bo h.lt nb)]; exact h.frz j
 have c1:=hg.cell h.c1 nb
 refine ⟨⟨c1,hfr 1⟩, ?_,World.cell?_setCell_same W' _ _ c1,fun j => by rw [World.frozen?_setCell]; exact hfr j,n2.grown kInt gs fun k hk hf => ?_,n1.grown kInt gs fun k hk hf => ?_,fun k hk hf => n3 k hf hk,(h.bel.grown hg (by have:=h.lt; omega) fun k hk => by have:=(h.in1 k hk).1; omega).setCell (show bo ≤ (⟨bo,1,none⟩ : Addr).block from Nat.le_refl _) _⟩
 ·rw [World.cell?_setCell_other _ _ _ _ (by intro e; simp at e)]; exact hg.cell h.c0 nb
 ·have:=(n2.foot kInt k hf).1; simp at hk; omega
 ·have:=(n1.foot kInt k hf).1; simp at hk; omega
theorem ExM.fresh (h : ExM bo u v us vs lu lv W0 W) {k : Nat} (hk : W.heap.size ≤ k) : ¬ Foot u us k∧¬ Foot v vs k:=⟨fun hf => by have:=(h.ou.foot kInt k hf).2; omega,fun hf => by have:=(h.ov.foot kInt k hf).2; omega⟩
end
end Go.Proofs.YtgblfjccccdidaaGreat
end
section
namespace Go
theorem results_cell3 {fn : Func} {p u v : Tmp} {ty : TypeId} (h : fn.results = #[.cell p ty,.tmp u,.tmp v]) (tmps : Array Value) (P : Program) (w : World) :
  (results fn tmps).run P w =
   ((asAddr (tmps.getD p undef)).run P w).andThen fun a w₁ => ((loadVar ty a).run P w₁).andThen fun x w₂ => .ok (.tuple #[x,tmps.getD u undef,tmps.getD v undef]) w₂:=by
 simp only [results,h]
 simp [Sem.run_bind,Result.andThen]
end Go
namespace Go.Dfl
open Go.RowKit
theorem Lst.cutRest {α : Type} [Inhabited α] {f : α→Value} {P : Program} {t e : TypeId} {z : Value} {by8 : Nat} {w : World} {v : Value} {l : List α} (ht : SliceOf P t e z 1 by8) (h : Lst f w v l) {k : Nat} (hk : k < l.length) :
  ∃ a c,(∀ (ik : IntKind) (W : World),(Instr.slice t v (some (.int ik (k : Int))) none none).run P W = .ok (.slice a (l.length - k) c) W)∧Lst f w (.slice a (l.length - k) c) (l.drop k):=by
 obtain ⟨i,hi,_,hs,_⟩:=ht.info
 have hlt : (l.drop k).length = l.length - k:=by simp
 obtain ⟨a0,cap,rfl,h1,h2,h3⟩:=h
 obtain ⟨ha,hb, -⟩:=h3 0 (by omega)
 obtain ⟨b,o,rfl⟩ : ∃ b o,a0 = some ⟨b,o,none⟩:=⟨_,_,ha⟩
 refine ⟨some ⟨b,o + k,none⟩,cap - k,fun ik W => ?_,some ⟨b,o + k,none⟩,cap - k,by rw [hlt],by omega,by omega,fun j hj => ?_⟩
 ·have h1' : k ≤ l.length:=by omega
  have hck : ¬ cap = k:=by omega
  have hce : P.cellsOf e = 1:=by simp [Program.cellsOf,hi,hs]
  simp [Instr.slice,run_underlying ht.und,Instr.sliceBounds,Instr.sliceBound,asIntOf,h1',run_sizeOf _ hi,Addr.add,hck,hce]
 ·rw [hlt] at hj
  obtain ⟨-,h6,h7⟩:=h3 (k + j) (by omega)
  refine ⟨rfl,h6,fun q hq => ?_⟩
  have h8:=h7 q hq
  rw [show blk (some (⟨b,o + k,none⟩ : Addr)) = b from rfl,show ofs (some (⟨b,o + k,none⟩ : Addr)) = o + k from rfl]
  rw [show blk (some (⟨b,o,none⟩ : Addr)) = b from rfl,show ofs (some (⟨b,o,none⟩ : Addr)) = o from rfl] at h8
  rw [show o + k + j * 1 + q = o + (k + j) * 1 + q by omega,h8]
  show some (f (nth l (k + j))) = some (f (nth (l.drop k) j))
  rw [nth_eq _ _ (show k + j < l.length by omega),nth_eq _ _ (show j < (l.drop k).length by rw [hlt]; exact hj),List.getElem_drop]
end Go.Dfl
namespace Go.Proofs.YtgblfjccccdidaaGreat
open Go.RowKit Go.Dfl Go.And
structure SlM (s : Sy) (bo : Nat) (ra : Option Addr) (rc : Nat) (rs : List RC) (l : List R) (W : World) : Prop where
 o0 : W.cell? ⟨bo,0,none⟩ = some (.int .i64 s.vars)
 o1 : W.cell? ⟨bo,1,none⟩ = some (.int .i64 s.sites)
 o2 : W.cell? ⟨bo,2,none⟩ = some (.int .i64 s.fields)
 o3 : W.cell? ⟨bo,3,none⟩ = some (.slice ra rs.length rc)
 frz : ∀ j,W.frozen? ⟨bo,j,none⟩ = false
 own : OwnE elC W (bo + 1) 48 (.slice ra rs.length rc) rs
 len : rs.length = l.length
 el : ∀ i,i < rs.length→(nth rs i).k = (nth l i).k∧(nth rs i).a = (nth l i).a∧(nth rs i).b = (nth l i).b∧(nth rs i).f = (nth l i).f∧OwnI W (bo + 1) 3 (nth rs i).set (nth l i).s∧∀ k,(nth rs i).set.ownBlock = some k→(Value.slice ra rs.length rc).ownBlock ≠ some k
section
variable {s : Sy} {bo : Nat} {ra : Option Addr} {rc : Nat} {rs : List RC} {l : List R} {W W1 W2 : World}
theorem SlM.new (s : Sy) (W : World) (t : TypeId) : SlM s W.heap.size none 0 [] [] (W.alloc (.cells #[.int .i64 s.vars,.int .i64 s.sites,.int .i64 s.fields,.slice none 0 0] t)):=by
 have hn:=cells_new (W:=W) (cs:=[.int .i64 s.vars,.int .i64 s.sites,.int .i64 s.fields,.slice none 0 0]) (t:=t) rfl
 refine ⟨hn 0 _ rfl,hn 1 _ rfl,hn 2 _ rfl,hn 3 _ rfl,fun j => ?_,OwnE.nil _ _ _ _,rfl,fun i hi => by simp at hi⟩
 have hb:=heap_alloc_new W (.cells #[.int .i64 s.vars,.int .i64 s.sites,.int .i64 s.fields,.slice none 0 0] t)
 simp only [World.frozen?,hb]
 first | rfl | simp
theorem SlM.grown (h : SlM s bo ra rc rs l W) {row : Option Nat} (hg : W.grownBy W1 row) (hr : ∀ k,row = some k→W.heap.size ≤ k ∨ k < bo) : SlM s bo ra rc rs l W1:=by
 have lb : bo < W.heap.size:=World.block_lt_of_cell? W _ h.o0
 have nb : some bo ≠ row:=fun e => by have:=hr bo e.symm; omega
 have ne : ∀ {v : Value},(∀ k,v.ownBlock = some k→bo + 1 ≤ k∧k < W.heap.size)→v.ownBlock = none ∨ v.ownBlock ≠ row:=fun {v} hv => by
  cases e : v.ownBlock with
  | none => exact .inl rfl
  | some k => exact .inr fun e2 => by have:=hv k e; have:=hr k e2.symm; omega
 refine ⟨hg.cell h.o0 nb,hg.cell h.o1 nb,hg.cell h.o2 nb,hg.cell h.o3 nb,fun j => ?_,OwnE.grown h.own hg (ne fun k e => OwnE.lt h.own k e),h.len,fun i hi => ?_⟩
 ·rw [World.frozen?_of_block (a:=⟨bo,j,none⟩) (hg.block bo lb nb)]; exact h.frz j
 ·obtain ⟨e1,e2,e3,e4,e5,e6⟩:=h.el i hi
  exact ⟨e1,e2,e3,e4,e5.grown hg (ne fun k e => e5.lt k e),e6⟩
theorem SlM.push (h : SlM s bo ra rc rs l W) {x : RC} {c : R} (hx : x.k = c.k∧x.a = c.a∧x.b = c.b∧x.f = c.f) (hs : OwnI W (bo + 1) 3 x.set c.s) (hn : ∀ k,x.set.ownBlock = some k→(Value.slice ra rs.length rc).ownBlock ≠ some k)
  (g1 : W.grownBy W1 none) {ra2 : Option Addr} {rc2 : Nat} (ho : OwnE elC W2 (bo + 1) 48 (.slice ra2 (rs.length + 1) rc2) (rs ++ [x])) (g2 : W1.grownBy W2 (Value.slice ra rs.length rc).ownBlock) (hl : (Value.slice ra2 (rs.length + 1) rc2).ownBlock = (Value.slice ra rs.length rc).ownBlock ∨ (Value.slice ra2 (rs.length + 1) rc2).ownBlock = some W1.heap.size) :
  W2.cell? ⟨bo,3,none⟩ = some (.slice ra rs.length rc)∧W2.frozen? ⟨bo,3,none⟩ = false∧SlM s bo ra2 rc2 (rs ++ [x]) (l ++ [c]) (W2.setCell ⟨bo,3,none⟩ (.slice ra2 (rs.length + 1) rc2)):=by
 have lb : bo < W.heap.size:=World.block_lt_of_cell? W _ h.o0
 have nb : some bo ≠ (Value.slice ra rs.length rc).ownBlock:=fun e => by have:=(OwnE.lt h.own bo e.symm).1; omega
 have c2 : ∀ {j : Nat} {y : Value},W.cell? ⟨bo,j,none⟩ = some y→W2.cell? ⟨bo,j,none⟩ = some y:=fun hy => g2.cell (g1.cell hy (by simp)) nb
 have f2 : ∀ j,W2.frozen? ⟨bo,j,none⟩ = false:=fun j => by
  rw [World.frozen?_of_block (a:=⟨bo,j,none⟩) ((g2.block bo (Nat.lt_of_lt_of_le lb g1.size) nb).trans (g1.block bo lb (by simp)))]; exact h.frz j
 have oth : ∀ {j : Nat} {y : Value},j ≠ 3→W.cell? ⟨bo,j,none⟩ = some y→(W2.setCell ⟨bo,3,none⟩ (.slice ra2 (rs.length + 1) rc2)).cell? ⟨bo,j,none⟩ = some y:=fun hj hy => by
  rw [World.cell?_setCell_other _ _ _ _ (by intro e; simp at e; try omega)]; exact c2 hy
 have gs:=grownBy_setCell W2 ⟨bo,3,none⟩ (.slice ra2 (rs.length + 1) rc2)
 have hlen : (rs ++ [x]).length = rs.length + 1:=by simp
 have keepI : ∀ {u : Value} {m : List Int},OwnI W (bo + 1) 3 u m→(∀ k,u.ownBlock = some k→(Value.slice ra rs.length rc).ownBlock ≠ some k)→OwnI (W2.setCell ⟨bo,3,none⟩ (.slice ra2 (rs.length + 1) rc2)) (bo + 1) 3 u m∧∀ k,u.ownBlock = some k→(Value.slice ra2 (rs.length + 1) rc2).ownBlock ≠ some k:=fun {u m} hu hne => by
  have hw : ∀ row : Option Nat,(∀ k,u.ownBlock = some k→row ≠ some k)→u.ownBlock = none ∨ u.ownBlock ≠ row:=fun row hh => by
   cases e : u.ownBlock with
   | none => exact .inl rfl
   | some k => exact .inr fun e2 => hh k e e2.symm
  refine ⟨((hu.grown g1 (hw none (by simp))).grown g2 (hw _ hne)).grown gs (hw _ fun k e => ?_),fun k e => ?_⟩
  ·intro e2
   have h1:=(hu.lt k e).1
   have h2 : bo = k:=by simpa using e2
   omega
  ·rcases hl with e2 | e2
   ·rw [e2]; exact hne k e
   ·rw [e2]
    have h1:=(hu.lt k e).2
    have h2:=g1.size
    intro e3
    have h3 : W1.heap.size = k:=by simpa using e3
    omega
 refine ⟨c2 h.o3,f2 3,oth (by omega) h.o0,oth (by omega) h.o1,oth (by omega) h.o2,by rw [hlen]; exact World.cell?_setCell_same W2 _ _ (c2 h.o3),fun j => by rw [World.frozen?_setCell]; exact f2 j, ?_,by simp [h.len],fun i hi => ?_⟩
 ·rw [hlen]
  refine OwnE.grown ho gs (.inr fun e => ?_)
  have h1:=(OwnE.lt ho _ e).1
  have h2 : bo = (⟨bo,3,none⟩ : Addr).block:=rfl
  omega
 ·rw [hlen] at hi ⊢
  rw [nth_append,nth_append]
  by_cases e : i < rs.length
  ·rw [if_pos e,if_pos (by have:=h.len; omega)]
   obtain ⟨e1,e2,e3,e4,e5,e6⟩:=h.el i e
   exact ⟨e1,e2,e3,e4,keepI e5 e6⟩
  ·obtain rfl : i = rs.length:=by omega
   rw [if_neg e,if_neg (by have:=h.len; omega),Nat.sub_self,show rs.length - l.length = 0 by have:=h.len; omega]
   exact ⟨hx.1,hx.2.1,hx.2.2.1,hx.2.2.2,keepI hs hn⟩
theorem SlM.cons (h : SlM s bo ra rc rs l W) : ConsIn W (.slice ra l.length rc) l:=by
 refine ⟨rs,h.len, ?_,fun i hi => ?_⟩
 ·have:=OwnE.sliced h.own
  rw [h.len] at this
  exact this
 ·obtain ⟨e1,e2,e3,e4,e5, -⟩:=h.el i (by rw [h.len]; exact hi)
  exact ⟨e1,e2,e3,e4,e5.lst⟩
end
structure BoxR (W : World) (bc : Nat) (k a b f : Int) (sv : Value) : Prop where
 c0 : W.cell? ⟨bc,0,none⟩ = some (.int .i64 k)
 c1 : W.cell? ⟨bc,1,none⟩ = some (.int .i64 a)
 c2 : W.cell? ⟨bc,2,none⟩ = some (.int .i64 b)
 c3 : W.cell? ⟨bc,3,none⟩ = some (.int .i64 f)
 c4 : W.cell? ⟨bc,4,none⟩ = some sv
 fz : ∀ j,W.frozen? ⟨bc,j,none⟩ = false
section
variable {W W' : World} {bc : Nat} {k a b f : Int} {sv : Value}
theorem BoxR.new (W : World) (k a b f : Int) (sv : Value) (t : TypeId) : BoxR (W.alloc (.cells #[.int .i64 k,.int .i64 a,.int .i64 b,.int .i64 f,sv] t)) W.heap.size k a b f sv:=by
 have hn:=cells_new (W:=W) (cs:=[.int .i64 k,.int .i64 a,.int .i64 b,.int .i64 f,sv]) (t:=t) rfl
 refine ⟨hn 0 _ rfl,hn 1 _ rfl,hn 2 _ rfl,hn 3 _ rfl,hn 4 _ rfl,fun j => ?_⟩
 have hb:=heap_alloc_new W (.cells #[.int .i64 k,.int .i64 a,.int .i64 b,.int .i64 f,sv] t)
 simp only [World.frozen?,hb]
 first | rfl | simp
theorem BoxR.lt (h : BoxR W bc k a b f sv) : bc < W.heap.size:=World.block_lt_of_cell? W _ h.c0
theorem BoxR.grown {row : Option Nat} (h : BoxR W bc k a b f sv) (hg : W.grownBy W' row) (hne : some bc ≠ row) : BoxR W' bc k a b f sv :=
 ⟨hg.cell h.c0 hne,hg.cell h.c1 hne,hg.cell h.c2 hne,hg.cell h.c3 hne,hg.cell h.c4 hne,fun j => by rw [World.frozen?_of_block (a:=⟨bc,j,none⟩) (hg.block bc h.lt hne)]; exact h.fz j⟩
theorem BoxR.setA (h : BoxR W bc k a b f sv) (x : Int) : BoxR (W.setCell ⟨bc,1,none⟩ (.int .i64 x)) bc k x b f sv:=by
 have o : ∀ {j : Nat} {y : Value},j ≠ 1→W.cell? ⟨bc,j,none⟩ = some y→(W.setCell ⟨bc,1,none⟩ (.int .i64 x)).cell? ⟨bc,j,none⟩ = some y:=fun hj hy => by
  rw [World.cell?_setCell_other _ _ _ _ (by intro e; simp at e; try omega)]; exact hy
 exact ⟨o (by omega) h.c0,World.cell?_setCell_same _ _ _ h.c1,o (by omega) h.c2,o (by omega) h.c3,o (by omega) h.c4,fun j => by rw [World.frozen?_setCell]; exact h.fz j⟩
theorem BoxR.setB (h : BoxR W bc k a b f sv) (x : Int) : BoxR (W.setCell ⟨bc,2,none⟩ (.int .i64 x)) bc k a x f sv:=by
 have o : ∀ {j : Nat} {y : Value},j ≠ 2→W.cell? ⟨bc,j,none⟩ = some y→(W.setCell ⟨bc,2,none⟩ (.int .i64 x)).cell? ⟨bc,j,none⟩ = some y:=fun hj hy => by
  rw [World.cell?_setCell_other _ _ _ _ (by intro e; simp at e; try omega)]; exact hy
 exact ⟨o (by omega) h.c0,o (by omega) h.c1,World.cell?_setCell_same _ _ _ h.c2,o (by omega) h.c3,o (by omega) h.c4,fun j => by rw [World.frozen?_setCell]; exact h.fz j⟩
theorem BoxR.setS (h : BoxR W bc k a b f sv) (x : Value) : BoxR (W.setCell ⟨bc,4,none⟩ x) bc k a b f x:=by
 have o : ∀ {j : Nat} {y : Value},j ≠ 4→W.cell? ⟨bc,j,none⟩ = some y→(W.setCell ⟨bc,4,none⟩ x).cell? ⟨bc,j,none⟩ = some y:=fun hj hy => by
  rw [World.cell?_setCell_other _ _ _ _ (by intro e; simp at e; try omega)]; exact hy
 exact ⟨o (by omega) h.c0,o (by omega) h.c1,o (by omega) h.c2,o (by omega) h.c3,World.cell?_setCell_same _ _ _ h.c4,fun j => by rw [World.frozen?_setCell]; exact h.fz j⟩
end
end Go.Proofs.YtgblfjccccdidaaGreat
end
section
namespace Go.Kah
open Go.Dfl (nth nth_set nth_mem mem_nth nth_eq nth_ext nth_append take_snoc)
theorem nodup_le {α : Type} [DecidableEq α] : ∀ (l m : List α),l.Nodup→(∀ x ∈ l,x ∈ m)→l.length ≤ m.length
 | [],_,_,_ => by simp
 | a :: l,m,hn,h => by
   rw [List.nodup_cons] at hn
   have h1:=nodup_le l (m.erase a) hn.2 fun x hx => by
    have hne : x ≠ a:=fun e => hn.1 (e ▸ hx)
    exact (List.mem_erase_of_ne hne).2 (h x (List.mem_cons_of_mem _ hx))
   have h2:=List.length_erase_of_mem (h a (by simp))
   have h3 : 0 < m.length:=List.length_pos_of_mem (h a (by simp))
   simp only [List.length_cons]
   omega
inductive Plus (R : Nat→Nat→Prop) : Nat→Nat→Prop
 | one {a b : Nat} : R a b→Plus R a b
 | cons {a b c : Nat} : R a b→Plus R b c→Plus R a c
theorem cycle_of {A : Nat→Prop} {R : Nat→Nat→Prop} {n : Nat} (hn : ∀ x,A x→x < n) (hp : ∀ x,A x→∃ y,A y∧R y x) (hx : ∃ x,A x) : ∃ c,Plus R c c:=by
 obtain ⟨x,hx⟩:=hx
 obtain ⟨f,hf⟩ : ∃ f : Nat→Nat, ∀ x,A x→A (f x)∧R (f x) x:=⟨fun x => Classical.epsilon fun y => A y∧R y x,fun x hx => Classical.epsilon_spec (hp x hx)⟩
 obtain ⟨a,ha0,ha⟩ : ∃ a : Nat→Nat,a 0 = x∧∀ k,a (k + 1) = f (a k):=⟨fun k => Nat.rec x (fun _ y => f y) k,rfl,fun _ => rfl⟩
 have hA : ∀ k,A (a k):=fun k => by
  induction k with
  | zero => rw [ha0]; exact hx
  | succ k ih => rw [ha]; exact (hf _ ih).1
 have hR : ∀ k,R (a (k + 1)) (a k):=fun k => by rw [ha]; exact (hf _ (hA k)).2
 have hplus : ∀ d i,Plus R (a (i + d + 1)) (a i):=fun d => by
  induction d with
  | zero => exact fun i => .one (hR i)
  | succ d ih => exact fun i => .cons (hR (i + d + 1)) (ih i)
 have hnot : ¬ ((List.range (n + 1)).map a).Nodup:=fun h => by
  have:=nodup_le _ (List.range n) h fun y hy => by
   obtain ⟨k, -,rfl⟩:=List.mem_map.1 hy
   exact List.mem_range.2 (hn _ (hA k))
  simp at this; omega
 have hex : ∃ i j,i < j∧a i = a j:=by
  false_or_by_contra
  rename_i hne
  refine hnot (List.pairwise_map.2 (List.pairwise_lt_range.imp fun {i j} hij e => hne ⟨i,j,hij,e⟩))
 obtain ⟨i,j,hij,he⟩:=hex
 have:=hplus (j - i - 1) i
 rw [show i + (j - i - 1) + 1 = j by omega, ← he] at this
 exact ⟨_,this⟩
abbrev Ed:=List (Nat × Nat)
def cnt (E : Ed) (D : List Nat) (w : Nat) : Nat:=(E.filter fun e => decide (e.2 = w) && !decide (e.1 ∈ D)).length
def row (E : Ed) (u : Nat) : List Nat:=(E.filter fun e => decide (e.1 = u)).map fun e => e.2
theorem mem_row {E : Ed} {u w : Nat} : w ∈ row E u ↔ (u,w) ∈ E:=by
 unfold row
 rw [List.mem_map]
 constructor
 ·rintro ⟨⟨a,b⟩,he,rfl⟩
  rw [List.mem_filter,decide_eq_true_eq] at he
  rw [← he.2]; exact he.1
 ·intro h; exact ⟨(u,w),List.mem_filter.2 ⟨h,by simp⟩,rfl⟩
theorem cnt_snoc (E : Ed) {D : List Nat} {u : Nat} (hu : ¬ u ∈ D) (w : Nat) : cnt E (D ++ [u]) w + (row E u).count w = cnt E D w:=by
 unfold cnt row
 induction E with
 | nil => rfl
 | cons e E ih =>
   obtain ⟨a,b⟩:=e
   rw [List.filter_cons,List.filter_cons,List.filter_cons]
   simp only [List.mem_append,List.mem_singleton] at ih ⊢
   by_cases hb : b = w
   ·by_cases ha : a = u
    ·have h1 : ¬ a ∈ D:=by rw [ha]; exact hu
     simp only [ha,hb,hu,or_true,decide_true,Bool.not_true,Bool.and_false,Bool.false_eq_true,if_false,decide_false,Bool.not_false,Bool.and_true,if_true,List.map_cons,List.count_cons_self,List.length_cons]
     omega
    ·by_cases h1 : a ∈ D
     ·simp only [ha,hb,h1,true_or,decide_true,Bool.not_true,Bool.and_false,Bool.false_eq_true,if_false,decide_false]
      exact ih
     ·simp only [ha,hb,h1,or_false,decide_false,Bool.not_false,Bool.and_true,decide_true,if_true,Bool.false_eq_true,if_false,List.length_cons]
      omega
   ·by_cases ha : a = u
    ·simp only [ha,hb,decide_false,Bool.false_and,Bool.false_eq_true,if_false,decide_true,if_true,List.map_cons]
     rw [List.count_cons_of_ne (by exact hb)]; exact ih
    ·simp only [ha,hb,decide_false,Bool.false_and,Bool.false_eq_true,if_false]
     exact ih
theorem cnt_zero {E : Ed} {D : List Nat} {w : Nat} : cnt E D w = 0 ↔ ∀ u,(u,w) ∈ E→u ∈ D:=by
 unfold cnt
 rw [List.length_eq_zero_iff,List.filter_eq_nil_iff]
 constructor
 ·intro h u hu
  have:=h _ hu
  simpa using this
 ·rintro h ⟨a,b⟩ he
  by_cases hb : b = w
  ·subst hb; simp [h a he]
  ·simp [hb]
theorem cnt_one {E : Ed} {D : List Nat} {u w v : Nat} : cnt (E ++ [(u,w)]) D v = cnt E D v + if v = w∧¬ u ∈ D then 1 else 0:=by
 unfold cnt
 rw [List.filter_append,List.length_append]
 by_cases h1 : v = w
 ·by_cases h2 : u ∈ D <;> simp [h1,h2]
 ·have : ¬ w = v:=fun e => h1 e.symm
  simp [h1,this]
theorem row_one {E : Ed} {u w v : Nat} : row (E ++ [(u,w)]) v = row E v ++ if v = u then [w] else []:=by
 unfold row
 rw [List.filter_append,List.map_append]
 by_cases h1 : v = u
 ·simp [h1]
 ·have : ¬ u = v:=fun e => h1 e.symm
  simp [h1,this]
section
variable {E : Ed} {n : Nat} {S : Nat→Prop} {o : List Nat} {i k : Nat} {P : List Int}
end
end Go.Kah
namespace Go.Kah
open Go.Dfl (nth nth_set nth_mem mem_nth nth_eq nth_ext nth_append take_snoc)
def Nxt (E : Ed) (n : Nat) (S : Nat→Prop) (D : List Nat) (x : Nat) : Prop:=(S x∧x < n∧¬ x ∈ D∧∀ u,(u,x) ∈ E→u ∈ D)∧∀ y,S y→y < n→¬ y ∈ D→(∀ u,(u,y) ∈ E→u ∈ D)→x ≤ y
def Steps (E : Ed) (n : Nat) (S : Nat→Prop) (L : List Nat) : Prop:=∀ j,j < L.length→Nxt E n S (L.take j) (nth L j)
theorem Steps.snoc {E : Ed} {n : Nat} {S : Nat→Prop} {L : List Nat} {x : Nat} (h : Steps E n S L) (hx : Nxt E n S L x) : Steps E n S (L ++ [x]):=fun j hj => by
 rw [List.length_append] at hj
 simp only [List.length_cons,List.length_nil] at hj
 by_cases e : j < L.length
 ·rw [List.take_append_of_le_length (by omega),nth_append,if_pos e]; exact h j e
 ·obtain rfl : j = L.length:=by omega
  rw [List.take_append_of_le_length (Nat.le_refl _),List.take_length,nth_append,if_neg (by omega),Nat.sub_self]; exact hx
structure HB (E : Ed) (n : Nat) (S : Nat→Prop) (L R : List Nat) (P : List Int) : Prop where
 len : P.length = n
 nd : (L ++ R).Nodup
 p : ∀ w,w < n→nth P w = (cnt E L w : Nat)
 mem : ∀ w,(w ∈ L ∨ w ∈ R) ↔ S w∧w < n∧nth P w = 0
 st : Steps E n S L
structure HM (E : Ed) (n : Nat) (S : Nat→Prop) (L : List Nat) (u k : Nat) (R : List Nat) (P : List Int) : Prop where
 len : P.length = n
 nd : (L ++ u :: R).Nodup
 p : ∀ w,w < n→nth P w + (((row E u).take k).count w : Nat) = (cnt E L w : Nat)
 mem : ∀ w,(w ∈ L ∨ w = u ∨ w ∈ R) ↔ S w∧w < n∧nth P w = 0
 st : Steps E n S (L ++ [u])
section
variable {E : Ed} {n : Nat} {S : Nat→Prop} {L R R' : List Nat} {u k : Nat} {P : List Int}
theorem HB.perm (h : HB E n S L R P) (hp : R'.Perm R) : HB E n S L R' P :=
 ⟨h.len,(List.Perm.append_left L hp).nodup_iff.2 h.nd,h.p,fun w => by rw [← h.mem w,hp.mem_iff],h.st⟩
theorem HM.perm (h : HM E n S L u k R P) (hp : R'.Perm R) : HM E n S L u k R' P :=
 ⟨h.len,(List.Perm.append_left L (hp.cons u)).nodup_iff.2 h.nd,h.p,fun w => by rw [← h.mem w,hp.mem_iff],h.st⟩
theorem HB.pop (h : HB E n S L (u :: R) P) (hu : ∀ x ∈ R,u ≤ x) : HM E n S L u 0 R P:=by
 refine ⟨h.len,h.nd,fun w hw => by simp [h.p w hw],fun w => by rw [← h.mem w,List.mem_cons],h.st.snoc ⟨?_,fun y hS hn hD hy => ?_⟩⟩
 ·obtain ⟨h1,h2,h3⟩:=(h.mem u).1 (.inr (by simp))
  have h4:=h.p u h2
  rw [h3] at h4
  refine ⟨h1,h2,fun hm => ?_,fun x hx => cnt_zero.1 (by omega : cnt E L u = 0) x hx⟩
  exact (List.nodup_append.1 h.nd).2.2 u hm u (by simp) rfl
 ·have h4:=h.p y hn
  rw [cnt_zero.2 hy] at h4
  rcases (h.mem y).2 ⟨hS,hn,by omega⟩ with h5 | h5
  ·exact absurd h5 hD
  ·rcases List.mem_cons.1 h5 with e | h5
   ·omega
   ·exact hu y h5
theorem HM.pos (h : HM E n S L u k R P) (hk : k < (row E u).length) (hw : nth (row E u) k < n) : 0 < nth P (nth (row E u) k):=by
 have hul : ¬ u ∈ L:=fun hm => (List.nodup_append.1 h.nd).2.2 u hm u (by simp) rfl
 have h1:=cnt_snoc E hul (nth (row E u) k)
 have h2:=h.p _ hw
 have h3 : ((row E u).take (k + 1)).count (nth (row E u) k) ≤ (row E u).count (nth (row E u) k):=(List.take_sublist _ _).count_le _
 rw [take_snoc _ _ hk,List.count_append,List.count_singleton_self] at h3
 omega
theorem HM.next (h : HM E n S L u k R P) (hk : k < (row E u).length) {w : Nat} (he : nth (row E u) k = w) (hw : w < n) (hS : S w) : (nth P w - 1 ≠ 0→HM E n S L u (k + 1) R (P.set w (nth P w - 1)))∧(nth P w - 1 = 0→HM E n S L u (k + 1) (w :: R) (P.set w (nth P w - 1))):=by
 have hpos:=h.pos hk (by rw [he]; exact hw)
 rw [he] at hpos
 have hout : ¬ (w ∈ L ∨ w = u ∨ w ∈ R):=fun hm => by have:=((h.mem w).1 hm).2.2; omega
 have hp : ∀ x,x < n→nth (P.set w (nth P w - 1)) x + (((row E u).take (k + 1)).count x : Nat) = (cnt E L x : Nat):=fun x hx => by
  have h1:=h.p x hx
  rw [take_snoc _ _ hk,List.count_append,he,nth_set,h.len]
  by_cases e : x = w
  ·subst e; rw [if_pos ⟨rfl,hx⟩,List.count_singleton_self]; omega
  ·rw [if_neg (by rintro ⟨e2, -⟩; first | exact e e2 | exact e e2.symm),List.count_singleton,if_neg (by simpa using fun e2 => e e2.symm)]; omega
 have hn : ∀ x,x ≠ w→nth (P.set w (nth P w - 1)) x = nth P x:=fun x hx => by
  rw [nth_set,if_neg (by rintro ⟨e2, -⟩; first | exact hx e2 | exact hx e2.symm)]
 have hww : nth (P.set w (nth P w - 1)) w = nth P w - 1:=by rw [nth_set,h.len,if_pos ⟨rfl,hw⟩]
 refine ⟨fun h0 => ⟨by rw [List.length_set]; exact h.len,h.nd,hp,fun x => ?_,h.st⟩,fun h0 => ⟨by rw [List.length_set]; exact h.len, ?_,hp,fun x => ?_,h.st⟩⟩
 ·by_cases e : x = w
  ·subst e; rw [hww]; exact ⟨fun hm => absurd hm hout,fun hm => absurd hm.2.2 h0⟩
  ·rw [hn x e]; exact h.mem x
 ·have h1 : (L ++ u :: w :: R).Perm (w :: (L ++ u :: R)):=by
   refine (List.Perm.append_left L (List.Perm.swap w u R)).trans List.perm_middle
  rw [h1.nodup_iff,List.nodup_cons]
  refine ⟨fun hm => hout ?_,h.nd⟩
  rw [List.mem_append,List.mem_cons] at hm; exact hm
 ·by_cases e : x = w
  ·subst e; rw [hww]; exact ⟨fun _ => ⟨hS,hw,h0⟩,fun _ => .inr (.inr (by simp))⟩
  ·rw [hn x e, ← h.mem x,List.mem_cons]; simp [e]
theorem HM.done (h : HM E n S L u (row E u).length R P) : HB E n S (L ++ [u]) R P:=by
 have hul : ¬ u ∈ L:=fun hm => (List.nodup_append.1 h.nd).2.2 u hm u (by simp) rfl
 refine ⟨h.len,by rw [List.append_assoc]; exact h.nd,fun w hw => ?_,fun w => by rw [← h.mem w,List.mem_append,List.mem_singleton,or_assoc],h.st⟩
 have h1:=h.p w hw
 rw [List.take_length] at h1
 have:=cnt_snoc E hul w
 omega
theorem HB.all (h : HB E n S L [] P) (hE : ∀ a b,(a,b) ∈ E→S a∧a < n) (hc : ∀ c, ¬ Plus (fun a b => (a,b) ∈ E) c c) {x : Nat} (hS : S x) (hx : x < n) : x ∈ L:=by
 false_or_by_contra
 rename_i hm
 have hk : ∀ y,(S y∧y < n∧¬ y ∈ L)→∃ z,(S z∧z < n∧¬ z ∈ L)∧(z,y) ∈ E:=fun y hy => by
  have h1 : ¬ cnt E L y = 0:=fun e => by
   have h2:=h.p y hy.2.1
   rcases (h.mem y).2 ⟨hy.1,hy.2.1,by omega⟩ with h3 | h3
   ·exact hy.2.2 h3
   ·simp at h3
  rw [cnt_zero] at h1
  obtain ⟨z,hz⟩:=Classical.not_forall.1 h1
  rw [Classical.not_imp] at hz
  exact ⟨z,⟨(hE z y hz.1).1,(hE z y hz.1).2,hz.2⟩,hz.1⟩
 obtain ⟨c,hcc⟩:=cycle_of (A:=fun x => S x∧x < n∧¬ x ∈ L) (R:=fun a b => (a,b) ∈ E) (n:=n) (fun y hy => hy.2.1) hk ⟨x,hS,hx,hm⟩
 exact hc c hcc
structure Whole (E : Ed) (n : Nat) (S : Nat→Prop) (L : List Nat) : Prop where
 st : Steps E n S L
 nd : L.Nodup
 mem : ∀ x,x ∈ L ↔ S x∧x < n
theorem HB.whole (h : HB E n S L [] P) (hE : ∀ a b,(a,b) ∈ E→S a∧a < n) (hc : ∀ c, ¬ Plus (fun a b => (a,b) ∈ E) c c) : Whole E n S L :=
 ⟨h.st,by have:=h.nd; rwa [List.append_nil] at this,fun x => ⟨fun hx => by have:=(h.mem x).1 (.inl hx); exact ⟨this.1,this.2.1⟩,fun hx => h.all hE hc hx.1 hx.2⟩⟩
theorem HB.start (hl : P.length = n) (hr : R.Nodup) (hp : ∀ w,w < n→nth P w = (cnt E [] w : Nat)) (hm : ∀ w,w ∈ R ↔ S w∧w < n∧nth P w = 0) : HB E n S [] R P :=
 ⟨hl,by simpa using hr,hp,fun w => by rw [← hm w]; simp,fun j hj => by simp at hj⟩
end
end Go.Kah
namespace Go.Tj
open Go.Dfl (nth nth_set nth_mem mem_nth nth_eq nth_ext nth_append take_snoc)
inductive Rt (E : Nat→Nat→Prop) : Nat→Nat→Prop
 | refl (a : Nat) : Rt E a a
 | step {a b c : Nat} : Rt E a b→E b c→Rt E a c
theorem Rt.one {E : Nat→Nat→Prop} {a b : Nat} (h : E a b) : Rt E a b:=.step (.refl a) h
theorem Rt.trans {E : Nat→Nat→Prop} {a b c : Nat} (h : Rt E a b) (k : Rt E b c) : Rt E a c:=by
 induction k with
 | refl => exact h
 | step _ hc ih => exact .step ih hc
theorem Rt.closed {E : Nat→Nat→Prop} {P : Nat→Prop} (hP : ∀ a b,P a→E a b→P b) {a b : Nat} (h : Rt E a b) (ha : P a) : P b:=by
 induction h with
 | refl => exact ha
 | step _ hc ih => exact hP _ _ ih hc
def Sc (E : Nat→Nat→Prop) (a b : Nat) : Prop:=Rt E a b∧Rt E b a
theorem Sc.refl (E : Nat→Nat→Prop) (a : Nat) : Sc E a a:=⟨.refl a,.refl a⟩
theorem Sc.symm {E : Nat→Nat→Prop} {a b : Nat} (h : Sc E a b) : Sc E b a:=⟨h.2,h.1⟩
theorem Sc.trans {E : Nat→Nat→Prop} {a b c : Nat} (h : Sc E a b) (k : Sc E b c) : Sc E a c:=⟨h.1.trans k.1,k.2.trans h.2⟩
def IsHd (E : Nat→Nat→Prop) (v : Nat) (h : Nat) : Prop:=Sc E v h∧∀ w,Sc E v w→h ≤ w
theorem IsHd.unique {E : Nat→Nat→Prop} {v h k : Nat} (a : IsHd E v h) (b : IsHd E v k) : h = k:=Nat.le_antisymm (a.2 _ b.1) (b.2 _ a.1)
theorem IsHd.congr {E : Nat→Nat→Prop} {v w h : Nat} (a : IsHd E v h) (b : Sc E v w) : IsHd E w h:=⟨b.symm.trans a.1,fun x hx => a.2 x (b.trans hx)⟩
structure TI (E : Nat→Nat→Prop) (n : Nat) (gray : List Nat) (cnt : Nat) (num : List Nat) (hd : List Int) (stk : List Nat) : Prop where
 lenN : num.length = n
 lenH : hd.length = n
 cntb : ∀ v,v < n→nth num v ≤ cnt
 stkm : ∀ v,v ∈ stk ↔ v < n∧nth num v ≠ 0∧nth hd v < 0
 stko : stk.Pairwise fun x y => nth num x < nth num y
 un : ∀ v,v < n→nth num v = 0→nth hd v < 0
 gs : ∀ z ∈ gray,z ∈ stk
 blk : ∀ v w,v < n→nth num v ≠ 0→¬ v ∈ gray→E v w→nth num w ≠ 0
 dcl : ∀ v w,v < n→0 ≤ nth hd v→E v w→0 ≤ nth hd w
 up : ∀ x y,x ∈ stk→y ∈ stk→nth num x ≤ nth num y→Rt E x y
 gy : ∀ y ∈ stk, ∃ z ∈ gray,nth num z ≤ nth num y∧Rt E y z
 hds : ∀ v,v < n→0 ≤ nth hd v→∃ h : Nat,nth hd v = (h : Int)∧IsHd E v h
 cnv : cnt = ((List.range n).filter fun v => decide (nth num v ≠ 0)).length
structure TP (E : Nat→Nat→Prop) (n : Nat) (gray : List Nat) (v cnt : Nat) (num low : List Nat) (hd : List Int) (stk : List Nat) (cnt' : Nat) (num' low' : List Nat) (hd' : List Int) (stk' : List Nat) : Prop where
 inv : TI E n gray cnt' num' hd' stk'
 lenL : low'.length = n
 cle : cnt ≤ cnt'
 keepN : ∀ x,x < n→nth num x ≠ 0→nth num' x = nth num x
 newN : ∀ x,x < n→nth num x = 0→nth num' x = 0 ∨ cnt < nth num' x
 keepL : ∀ x,x < n→nth num x ≠ 0→nth low' x = nth low x
 keepH : ∀ x,x < n→0 ≤ nth hd x→nth hd' x = nth hd x
 vis : nth num' v ≠ 0
 ext : ∃ e,stk' = stk ++ e∧∀ z ∈ e, ∀ y ∈ stk,E z y→nth low' v ≤ nth num y
 low1 : nth low' v ≤ nth num' v
 low2 : (0 ≤ nth hd' v∧cnt < nth low' v) ∨ ∃ y ∈ stk,nth low' v = nth num y∧Rt E v y
structure TL (E : Nat→Nat→Prop) (n : Nat) (gray : List Nat) (v : Nat) (row : List Nat) (cnt0 : Nat) (num0 low0 : List Nat) (hd0 : List Int) (stk0 : List Nat) (k : Nat) (cnt : Nat) (num low : List Nat) (hd : List Int) (stk : List Nat) : Prop where
 inv : TI E n (gray ++ [v]) cnt num hd stk
 lenL : low.length = n
 cle : cnt0 < cnt
 keepN : ∀ x,x < n→nth num0 x ≠ 0→nth num x = nth num0 x
 newN : ∀ x,x < n→nth num0 x = 0→nth num x = 0 ∨ cnt0 < nth num x
 keepL : ∀ x,x < n→nth num0 x ≠ 0→nth low x = nth low0 x
 keepH : ∀ x,x < n→0 ≤ nth hd0 x→nth hd x = nth hd0 x
 ext : ∃ e,stk = stk0 ++ v :: e∧∀ z ∈ e, ∀ y ∈ stk0 ++ [v],E z y→nth low v ≤ nth num y
 low1 : nth low v ≤ nth num v
 low2 : ∃ y ∈ stk,nth low v = nth num y∧Rt E v y
 suc : ∀ j,j < k→nth num (nth row j) ≠ 0∧(nth hd (nth row j) < 0→nth low v ≤ nth num (nth row j))
 base : TI E n gray cnt0 num0 hd0 stk0
 v0 : nth num0 v = 0
section
variable {E : Nat→Nat→Prop} {n : Nat} {gray : List Nat} {v : Nat} {row : List Nat} {cnt0 : Nat} {num0 low0 : List Nat} {hd0 : List Int} {stk0 : List Nat} {k cnt : Nat} {num low : List Nat} {hd : List Int} {stk : List Nat}
theorem TI.lt (h : TI E n gray cnt num hd stk) {x : Nat} (hx : x ∈ stk) : x < n:=((h.stkm x).1 hx).1
theorem TI.gmax (h : TI E n (gray ++ [v]) cnt num hd stk) {e : List Nat} (he : stk = stk0 ++ v :: e) : (∀ x ∈ stk0,nth num x < nth num v)∧∀ x ∈ e,nth num v < nth num x:=by
 have h1:=h.stko
 rw [he,List.pairwise_append] at h1
 exact ⟨fun x hx => h1.2.2 x hx v (by simp),(List.pairwise_cons.1 h1.2.1).1⟩
theorem nth_in {l : List Nat} {x : Nat} (h : nth l x ≠ 0) : x < l.length:=by
 false_or_by_contra
 rename_i hge
 refine h ?_
 unfold nth
 rw [List.getD_eq_getElem?_getD,List.getElem?_eq_none (by omega)]; rfl
theorem TL.enter (h : TI E n gray cnt0 num0 hd0 stk0) (hl : low0.length = n) (hv : v < n) (h0 : nth num0 v = 0) (hg : ∀ z ∈ gray,Rt E z v) : TL E n gray v row cnt0 num0 low0 hd0 stk0 0 (cnt0 + 1) (num0.set v (cnt0 + 1)) (low0.set v (cnt0 + 1)) hd0 (stk0 ++ [v]):=by
 have hnv : nth (num0.set v (cnt0 + 1)) v = cnt0 + 1:=by rw [nth_set,if_pos ⟨rfl,by rw [h.lenN]; exact hv⟩]
 have hno : ∀ x,x ≠ v→nth (num0.set v (cnt0 + 1)) x = nth num0 x:=fun x hx => by rw [nth_set,if_neg fun h => hx h.1.symm]
 have hvs : ¬ v ∈ stk0:=fun hm => ((h.stkm v).1 hm).2.1 h0
 have hne : ∀ x ∈ stk0,x ≠ v:=fun x hx e => hvs (e ▸ hx)
 have hlo : ∀ x ∈ stk0,nth num0 x < cnt0 + 1:=fun x hx => by have:=h.cntb x (h.lt hx); omega
 have hsv : ∀ x ∈ stk0,Rt E x v:=fun x hx => by
  obtain ⟨z,hz, -,hr⟩:=h.gy x hx
  exact hr.trans (hg z hz)
 refine ⟨⟨by rw [List.length_set]; exact h.lenN,h.lenH,fun x hx => ?_,fun x => ?_, ?_,fun x hx hx0 => ?_,fun z hz => ?_,fun x w hx hx0 hng he => ?_,h.dcl,fun x y hx hy hxy => ?_,fun y hy => ?_,h.hds, ?_⟩,by rw [List.length_set]; exact hl,Nat.lt_succ_self _,fun x _ hx0 => ?_,fun x hx hx0 => ?_,fun x _ hx0 => ?_,fun _ _ _ => rfl,⟨[],rfl,fun z hz => by simp at hz⟩, ?_,⟨v,by simp, ?_,.refl v⟩,fun j hj => by omega,h,h0⟩
 ·by_cases e : x = v
  ·rw [e,hnv]; exact Nat.le_refl _
  ·rw [hno x e]; have:=h.cntb x hx; omega
 ·rw [List.mem_append,List.mem_singleton]
  by_cases e : x = v
  ·subst e; rw [hnv]; exact ⟨fun _ => ⟨hv,by omega,h.un x hv h0⟩,fun _ => .inr rfl⟩
  ·rw [hno x e, ← h.stkm x]; simp [e]
 ·rw [List.pairwise_append]
  refine ⟨List.Pairwise.imp_of_mem (fun {a b} ha hb hab => ?_) h.stko,by simp,fun a ha b hb => ?_⟩
  ·rw [hno a (hne a ha),hno b (hne b hb)]; exact hab
  ·rw [List.mem_singleton.1 hb,hnv,hno a (hne a ha)]; exact hlo a ha
 ·by_cases e : x = v
  ·rw [e]; exact h.un v hv h0
  ·rw [hno x e] at hx0; exact h.un x hx hx0
 ·rw [List.mem_append,List.mem_singleton] at hz ⊢
  exact hz.imp (h.gs z) id
 ·rw [List.mem_append,List.mem_singleton,not_or] at hng
  rw [hno x hng.2] at hx0
  have h1:=h.blk x w hx hx0 hng.1 he
  by_cases e : w = v
  ·rw [e,hnv]; omega
  ·rw [hno w e]; exact h1
 ·rw [List.mem_append,List.mem_singleton] at hx hy
  rcases hx with hx | rfl
  ·rcases hy with hy | rfl
   ·rw [hno x (hne x hx),hno y (hne y hy)] at hxy; exact h.up x y hx hy hxy
   ·exact hsv x hx
  ·rcases hy with hy | rfl
   ·rw [hnv,hno y (hne y hy)] at hxy
    have:=hlo y hy; omega
   ·exact .refl _
 ·rw [List.mem_append,List.mem_singleton] at hy
  rcases hy with hy | rfl
  ·obtain ⟨z,hz,h1,h2⟩:=h.gy y hy
   exact ⟨z,by simp [hz],by rw [hno z (hne z (h.gs z hz)),hno y (hne y hy)]; exact h1,h2⟩
  ·exact ⟨y,by simp,Nat.le_refl _,.refl _⟩
 ·rw [h.cnv]
  have h1 : ∀ (l : List Nat),l.Nodup→v ∈ l→(l.filter fun x => decide (nth (num0.set v (((List.range n).filter fun v => decide (nth num0 v ≠ 0)).length + 1)) x ≠ 0)).length = (l.filter fun x => decide (nth num0 x ≠ 0)).length + 1:=by
   rw [← h.cnv]
   intro l hl
   induction l with
   | nil => intro hm; simp at hm
   | cons a l ih =>
     intro hm
     rw [List.nodup_cons] at hl
     by_cases e : a = v
     ·subst e
      have hc : (l.filter fun x => decide (nth (num0.set a (cnt0 + 1)) x ≠ 0)) = l.filter fun x => decide (nth num0 x ≠ 0):=List.filter_congr fun x hx => by rw [hno x fun e => hl.1 (e ▸ hx)]
      rw [List.filter_cons_of_pos (by simp [hnv]),List.filter_cons_of_neg (by simp [h0]),hc]; rfl
     ·have ih':=ih hl.2 ((List.mem_cons.1 hm).resolve_left fun e2 => e e2.symm)
      by_cases ha : nth num0 a = 0
      ·rw [List.filter_cons_of_neg (by simp [hno a e,ha]),List.filter_cons_of_neg (by simp [ha])]; exact ih'
      ·rw [List.filter_cons_of_pos (by simp [hno a e,ha]),List.filter_cons_of_pos (by simp [ha]),List.length_cons,List.length_cons,ih']
  exact (h1 _ List.nodup_range (List.mem_range.2 hv)).symm
 ·rw [hno x fun e => hx0 (e ▸ h0)]
 ·by_cases e : x = v
  ·right; rw [e,hnv]; omega
  ·left; rw [hno x e]; exact hx0
 ·rw [nth_set,if_neg fun (hh : v = x∧v < low0.length) => hx0 (hh.1 ▸ h0)]
 ·rw [hnv,nth_set,if_pos ⟨rfl,by rw [hl]; exact hv⟩]; exact Nat.le_refl _
 ·rw [hnv,nth_set,if_pos ⟨rfl,by rw [hl]; exact hv⟩]
theorem TL.reach (h : TL E n gray v row cnt0 num0 low0 hd0 stk0 k cnt num low hd stk) {w : Nat} (hw : E v w) : ∀ z ∈ gray ++ [v],Rt E z w:=fun z hz => by
 obtain ⟨e,he, -⟩:=h.ext
 have hvs : v ∈ stk:=by rw [he]; simp
 have hzs:=h.inv.gs z hz
 refine (h.inv.up z v hzs hvs ?_).trans (.one hw)
 rw [List.mem_append,List.mem_singleton] at hz
 rcases hz with hz | rfl
 ·exact Nat.le_of_lt ((h.inv.gmax he).1 z (h.base.gs z hz))
 ·exact Nat.le_refl _
theorem TL.vn (h : TL E n gray v row cnt0 num0 low0 hd0 stk0 k cnt num low hd stk) : v < n∧nth num v ≠ 0∧v ∈ stk∧nth hd v < 0:=by
 obtain ⟨e,he, -⟩:=h.ext
 have hvs : v ∈ stk:=by rw [he]; simp
 obtain ⟨a,b,c⟩:=(h.inv.stkm v).1 hvs
 exact ⟨a,b,hvs,c⟩
theorem TL.child (h : TL E n gray v row cnt0 num0 low0 hd0 stk0 k cnt num low hd stk) {w : Nat} (hw : w = nth row k) (hE : E v w) {cnt' : Nat} {num' low' : List Nat} {hd' : List Int} {stk' : List Nat} (hp : TP E n (gray ++ [v]) w cnt num low hd stk cnt' num' low' hd' stk') :
  TL E n gray v row cnt0 num0 low0 hd0 stk0 (k + 1) cnt' num' (low'.set v (min (nth low' v) (nth low' w))) hd' stk':=by
 obtain ⟨hvn,hv0,hvs, -⟩:=h.vn
 have hlv : nth low' v = nth low v:=hp.keepL v hvn hv0
 have hm : nth (low'.set v (min (nth low' v) (nth low' w))) v = min (nth low v) (nth low' w):=by rw [nth_set,if_pos ⟨rfl,by rw [hp.lenL]; exact hvn⟩,hlv]
 have hm1 : min (nth low v) (nth low' w) ≤ nth low v:=Nat.min_le_left _ _
 have hm2 : min (nth low v) (nth low' w) ≤ nth low' w:=Nat.min_le_right _ _
 have hks : ∀ y ∈ stk,nth num' y = nth num y:=fun y hy => hp.keepN y (h.inv.lt hy) ((h.inv.stkm y).1 hy).2.1
 obtain ⟨e,he,hel⟩:=h.ext
 obtain ⟨e2,he2,hel2⟩:=hp.ext
 refine ⟨hp.inv,by rw [List.length_set]; exact hp.lenL,by have:=h.cle; have:=hp.cle; omega,fun x hx hx0 => ?_,fun x hx hx0 => ?_,fun x hx hx0 => ?_,fun x hx hx0 => ?_,⟨e ++ e2,by rw [he2,he]; simp,fun z hz y hy he3 => ?_⟩, ?_, ?_,fun j hj => ?_,h.base,h.v0⟩
 ·have h1:=h.keepN x hx hx0
  rw [hp.keepN x hx (by rw [h1]; exact hx0),h1]
 ·rcases h.newN x hx hx0 with h1 | h1
  ·rcases hp.newN x hx h1 with h2 | h2
   ·exact .inl h2
   ·right; have:=h.cle; omega
  ·rw [hp.keepN x hx (by omega)]; exact .inr h1
 ·have h1:=h.keepN x hx hx0
  have hxv : v ≠ x:=fun e => hx0 (e ▸ h.v0)
  rw [nth_set,if_neg fun hh => hxv hh.1,hp.keepL x hx (by rw [h1]; exact hx0)]; exact h.keepL x hx hx0
 ·have h1:=h.keepH x hx hx0
  rw [hp.keepH x hx (by rw [h1]; exact hx0),h1]
 ·have hys : y ∈ stk:=by rw [he]; rw [List.mem_append,List.mem_singleton] at hy; rw [List.mem_append,List.mem_cons]; exact hy.imp id .inl
  rw [hm,hks y hys]
  rw [List.mem_append] at hz
  rcases hz with hz | hz
  ·exact Nat.le_trans hm1 (hel z hz y hy he3)
  ·exact Nat.le_trans hm2 (hel2 z hz y hys he3)
 ·rw [hm,hks v hvs]; exact Nat.le_trans hm1 h.low1
 ·rw [hm]
  by_cases hlt : nth low' w < nth low v
  ·rw [Nat.min_eq_right (Nat.le_of_lt hlt)]
   rcases hp.low2 with ⟨-,h2⟩ | ⟨y,hy,h2,h3⟩
   ·have:=h.low1; have:=h.inv.cntb v hvn; omega
   ·exact ⟨y,by rw [he2]; exact List.mem_append_left _ hy,by rw [hks y hy]; exact h2,(Rt.one hE).trans h3⟩
  ·rw [Nat.min_eq_left (Nat.le_of_not_lt hlt)]
   obtain ⟨y,hy,h2,h3⟩:=h.low2
   exact ⟨y,by rw [he2]; exact List.mem_append_left _ hy,by rw [hks y hy]; exact h2,h3⟩
 ·by_cases ej : j = k
  ·subst ej; rw [← hw]
   exact ⟨hp.vis,fun _ => by rw [hm]; exact Nat.le_trans hm2 hp.low1⟩
  ·obtain ⟨a,b⟩:=h.suc j (by omega)
   have hjn : nth row j < n:=by
    rw [← h.inv.lenN]; exact nth_in a
   rw [hp.keepN _ hjn a,hm]
   refine ⟨a,fun hd9 => Nat.le_trans hm1 (b ?_)⟩
   false_or_by_contra
   rename_i hge
   have:=hp.keepH _ hjn (by omega)
   omega
theorem TL.back (h : TL E n gray v row cnt0 num0 low0 hd0 stk0 k cnt num low hd stk) {w : Nat} (hw : w = nth row k) (hE : E v w) (hwn : w < n) (h0 : nth num w ≠ 0) (h1 : nth hd w < 0) :
  TL E n gray v row cnt0 num0 low0 hd0 stk0 (k + 1) cnt num (low.set v (min (nth low v) (nth num w))) hd stk:=by
 obtain ⟨hvn,hv0,hvs, -⟩:=h.vn
 have hm : nth (low.set v (min (nth low v) (nth num w))) v = min (nth low v) (nth num w):=by rw [nth_set,if_pos ⟨rfl,by rw [h.lenL]; exact hvn⟩]
 have hm1 : min (nth low v) (nth num w) ≤ nth low v:=Nat.min_le_left _ _
 have hm2 : min (nth low v) (nth num w) ≤ nth num w:=Nat.min_le_right _ _
 obtain ⟨e,he,hel⟩:=h.ext
 refine ⟨h.inv,by rw [List.length_set]; exact h.lenL,h.cle,h.keepN,h.newN,fun x hx hx0 => ?_,h.keepH,⟨e,he,fun z hz y hy he3 => by rw [hm]; exact Nat.le_trans hm1 (hel z hz y hy he3)⟩,by rw [hm]; exact Nat.le_trans hm1 h.low1, ?_,fun j hj => ?_,h.base,h.v0⟩
 ·have hxv : v ≠ x:=fun e => hx0 (e ▸ h.v0)
  rw [nth_set,if_neg fun hh => hxv hh.1]; exact h.keepL x hx hx0
 ·rw [hm]
  by_cases hlt : nth num w < nth low v
  ·rw [Nat.min_eq_right (Nat.le_of_lt hlt)]
   exact ⟨w,(h.inv.stkm w).2 ⟨hwn,h0,h1⟩,rfl,.one hE⟩
  ·rw [Nat.min_eq_left (Nat.le_of_not_lt hlt)]; exact h.low2
 ·by_cases ej : j = k
  ·subst ej; rw [← hw]; exact ⟨h0,fun _ => by rw [hm]; exact hm2⟩
  ·obtain ⟨a,b⟩:=h.suc j (by omega)
   exact ⟨a,fun hd9 => by rw [hm]; exact Nat.le_trans hm1 (b hd9)⟩
theorem TL.done (h : TL E n gray v row cnt0 num0 low0 hd0 stk0 k cnt num low hd stk) {w : Nat} (hw : w = nth row k) (h0 : nth num w ≠ 0) (h1 : 0 ≤ nth hd w) : TL E n gray v row cnt0 num0 low0 hd0 stk0 (k + 1) cnt num low hd stk :=
 ⟨h.inv,h.lenL,h.cle,h.keepN,h.newN,h.keepL,h.keepH,h.ext,h.low1,h.low2,fun j hj => by
  by_cases ej : j = k
  ·subst ej; rw [← hw]; exact ⟨h0,fun h9 => by omega⟩
  ·exact h.suc j (by omega),h.base,h.v0⟩
theorem TL.succ (h : TL E n gray v row cnt0 num0 low0 hd0 stk0 k cnt num low hd stk) (hk : k = row.length) (hrow : ∀ w,E v w ↔ w ∈ row) {w : Nat} (hE : E v w) : nth num w ≠ 0∧(nth hd w < 0→nth low v ≤ nth num w):=by
 obtain ⟨j,hj,rfl⟩:=mem_nth ((hrow w).1 hE)
 exact h.suc j (by omega)
theorem TL.exit1 (h : TL E n gray v row cnt0 num0 low0 hd0 stk0 k cnt num low hd stk) (hk : k = row.length) (hrow : ∀ w,E v w ↔ w ∈ row) (hlt : nth low v < nth num v) : TP E n gray v cnt0 num0 low0 hd0 stk0 cnt num low hd stk:=by
 obtain ⟨hvn,hv0,hvs,hvd⟩:=h.vn
 obtain ⟨e,he,hel⟩:=h.ext
 obtain ⟨g1,g2⟩:=h.inv.gmax he
 have hin : ∀ y ∈ stk,nth num y < nth num v→y ∈ stk0:=fun y hy hn => by
  rw [he,List.mem_append,List.mem_cons] at hy
  rcases hy with hy | rfl | hy
  ·exact hy
  ·omega
  ·have:=g2 y hy; omega
 obtain ⟨y0,hy0,hl0,hr0⟩:=h.low2
 obtain ⟨z0,hz0,hzl,hzr⟩:=h.inv.gy y0 hy0
 have hz0g : z0 ∈ gray:=by
  rw [List.mem_append,List.mem_singleton] at hz0
  rcases hz0 with hz0 | rfl
  ·exact hz0
  ·omega
 have h1:=h.inv
 refine ⟨⟨h1.lenN,h1.lenH,h1.cntb,h1.stkm,h1.stko,h1.un,fun z hz => h1.gs z (List.mem_append_left _ hz),fun x w hx hx0 hng hE => ?_,h1.dcl,h1.up,fun y hy => ?_,h1.hds,h1.cnv⟩,h.lenL,Nat.le_of_lt h.cle,h.keepN,h.newN,h.keepL,h.keepH,hv0,⟨v :: e,he,fun z hz y hy hE => ?_⟩,h.low1,.inr ⟨y0, ?_, ?_,hr0⟩⟩
 ·by_cases ex : x = v
  ·subst ex; exact (h.succ hk hrow hE).1
  ·exact h1.blk x w hx hx0 (by rw [List.mem_append,List.mem_singleton,not_or]; exact ⟨hng,ex⟩) hE
 ·obtain ⟨z,hz,h2,h3⟩:=h1.gy y hy
  rw [List.mem_append,List.mem_singleton] at hz
  rcases hz with hz | rfl
  ·exact ⟨z,hz,h2,h3⟩
  ·exact ⟨z0,hz0g,by omega,h3.trans (hr0.trans hzr)⟩
 ·have hnn : nth num y = nth num0 y:=h.keepN y (h.base.lt hy) ((h.base.stkm y).1 hy).2.1
  have hys : y ∈ stk:=by rw [he]; exact List.mem_append_left _ hy
  rw [← hnn]
  rcases List.mem_cons.1 hz with rfl | hz
  ·exact (h.succ hk hrow hE).2 ((h1.stkm y).1 hys).2.2
  ·exact hel z hz y (List.mem_append_left _ hy) hE
 ·exact hin y0 hy0 (by omega)
 ·have hy:=hin y0 hy0 (by omega)
  rw [← h.keepN y0 (h.base.lt hy) ((h.base.stkm y0).1 hy).2.1]; exact hl0
theorem TL.exit2 (h : TL E n gray v row cnt0 num0 low0 hd0 stk0 k cnt num low hd stk) (hE9 : ∀ a b,E a b→b < n) (hk : k = row.length) (hrow : ∀ w,E v w ↔ w ∈ row) (hge : ¬ nth low v < nth num v) {c : List Nat} (hc : stk = stk0 ++ c) {m : Nat} (hm : m ∈ c) (hmin : ∀ x ∈ c,m ≤ x) {hd' : List Int} (hl' : hd'.length = n) (hh : ∀ x,x < n→nth hd' x = if x ∈ c then (m : Int) else nth hd x) :
  TP E n gray v cnt0 num0 low0 hd0 stk0 cnt num low hd' stk0:=by
 obtain ⟨hvn,hv0,hvs,hvd⟩:=h.vn
 obtain ⟨e,he,hel⟩:=h.ext
 obtain rfl : c = v :: e:=List.append_cancel_left (hc.symm.trans he)
 obtain ⟨g1,g2⟩:=h.inv.gmax he
 have h1:=h.inv
 have hlow:=h.low1
 have hcs : ∀ x ∈ v :: e,x ∈ stk:=fun x hx => by rw [he]; exact List.mem_append_right _ hx
 have hcn : ∀ x ∈ v :: e,x < n:=fun x hx => h1.lt (hcs x hx)
 have hge2 : ∀ x ∈ v :: e,nth num v ≤ nth num x:=fun x hx => by
  rcases List.mem_cons.1 hx with rfl | hx
  ·exact Nat.le_refl _
  ·exact Nat.le_of_lt (g2 x hx)
 have hgray : ∀ z ∈ gray,z ∈ stk0:=h.base.gs
 have hnotc : ∀ x ∈ stk0, ¬ x ∈ v :: e:=fun x hx hxc => by have:=g1 x hx; have:=hge2 x hxc; omega
 have hsc : ∀ x ∈ v :: e,Sc E v x:=fun x hx => by
  refine ⟨h1.up v x hvs (hcs x hx) (hge2 x hx), ?_⟩
  obtain ⟨z,hz,h2,h3⟩:=h1.gy x (hcs x hx)
  refine h3.trans (h1.up z v (h1.gs z hz) hvs ?_)
  rw [List.mem_append,List.mem_singleton] at hz
  rcases hz with hz | rfl
  ·exact Nat.le_of_lt (g1 z (hgray z hz))
  ·exact Nat.le_refl _
 have hcl : ∀ a b,(a ∈ v :: e ∨ (a < n∧0 ≤ nth hd a))→E a b→(b ∈ v :: e ∨ (b < n∧0 ≤ nth hd b)):=fun a b ha hab => by
  have hbn:=hE9 a b hab
  rcases ha with ha | ⟨ha,hda⟩
  ·have hvis : nth num b ≠ 0:=by
    rcases List.mem_cons.1 ha with rfl | hae
    ·exact (h.succ hk hrow hab).1
    ·refine h1.blk a b (hcn a ha) ((h1.stkm a).1 (hcs a ha)).2.1 (fun hg => ?_) hab
     rw [List.mem_append,List.mem_singleton] at hg
     rcases hg with hg | rfl
     ·exact hnotc a (hgray a hg) ha
     ·exact Nat.lt_irrefl _ (g2 a hae)
   by_cases hdb : 0 ≤ nth hd b
   ·exact .inr ⟨hbn,hdb⟩
   ·left
    have hbs : b ∈ stk:=(h1.stkm b).2 ⟨hbn,hvis,by omega⟩
    rw [he,List.mem_append] at hbs
    refine hbs.resolve_left fun hb0 => ?_
    have hlt:=g1 b hb0
    rcases List.mem_cons.1 ha with rfl | hae
    ·have:=(h.succ hk hrow hab).2 (by omega); omega
    ·have:=hel a hae b (List.mem_append_left _ hb0) hab; omega
  ·exact .inr ⟨hbn,h1.dcl a b ha hda hab⟩
 have hmax : ∀ y,Sc E v y→y ∈ v :: e:=fun y hy => by
  rcases hy.1.closed hcl (.inl (by simp)) with h2 | ⟨h2,h3⟩
  ·exact h2
  ·exfalso
   have h4 : v < n∧0 ≤ nth hd v:=hy.2.closed (P:=fun a => a < n∧0 ≤ nth hd a) (fun a b ha hab => ⟨hE9 a b hab,h1.dcl a b ha.1 ha.2 hab⟩) ⟨h2,h3⟩
   omega
 have hin : ∀ x,x < n→(0 ≤ nth hd' x ↔ x ∈ v :: e ∨ 0 ≤ nth hd x):=fun x hx => by
  rw [hh x hx]
  by_cases hxc : x ∈ v :: e
  ·rw [if_pos hxc]; exact ⟨fun _ => .inl hxc,fun _ => by omega⟩
  ·rw [if_neg hxc]; exact ⟨.inr,fun h => h.resolve_left hxc⟩
 have hst0 : ∀ x,x ∈ stk0 ↔ x < n∧nth num x ≠ 0∧nth hd' x < 0:=fun x => by
  constructor
  ·intro hx
   obtain ⟨a,b,c⟩:=(h1.stkm x).1 (by rw [he]; exact List.mem_append_left _ hx)
   exact ⟨a,b,by rw [hh x a,if_neg (hnotc x hx)]; exact c⟩
  ·rintro ⟨a,b,c⟩
   have hxc : ¬ x ∈ v :: e:=fun hxc => by have:=(hin x a).2 (.inl hxc); omega
   rw [hh x a,if_neg hxc] at c
   have h2:=(h1.stkm x).2 ⟨a,b,c⟩
   rw [he,List.mem_append] at h2
   exact h2.resolve_right hxc
 have hsub : ∀ x ∈ stk0,x ∈ stk:=fun x hx => by rw [he]; exact List.mem_append_left _ hx
 refine ⟨⟨h1.lenN,hl',h1.cntb,hst0, ?_,fun x hx hx0 => ?_,hgray,fun x w hx hx0 hng hE => ?_,fun x w hx hdx hE => ?_,fun x y hx hy hxy => h1.up x y (hsub x hx) (hsub y hy) hxy,fun y hy => ?_,fun x hx hdx => ?_,h1.cnv⟩,h.lenL,Nat.le_of_lt h.cle,h.keepN,h.newN,h.keepL,fun x hx hdx => ?_,hv0,⟨[],by simp,fun z hz => by simp at hz⟩,hlow,.inl ⟨(hin v hvn).2 (.inl (by simp)), ?_⟩⟩
 ·have h2:=h1.stko
  rw [he,List.pairwise_append] at h2
  exact h2.1
 ·have hxc : ¬ x ∈ v :: e:=fun hxc => ((h1.stkm x).1 (hcs x hxc)).2.1 hx0
  rw [hh x hx,if_neg hxc]; exact h1.un x hx hx0
 ·by_cases ex : x = v
  ·subst ex; exact (h.succ hk hrow hE).1
  ·exact h1.blk x w hx hx0 (by rw [List.mem_append,List.mem_singleton,not_or]; exact ⟨hng,ex⟩) hE
 ·rcases hcl x w (((hin x hx).1 hdx).imp id fun h => ⟨hx,h⟩) hE with h2 | ⟨h2,h3⟩
  ·exact (hin w (hcn w h2)).2 (.inl h2)
  ·exact (hin w h2).2 (.inr h3)
 ·obtain ⟨z,hz,h2,h3⟩:=h1.gy y (hsub y hy)
  rw [List.mem_append,List.mem_singleton] at hz
  rcases hz with hz | rfl
  ·exact ⟨z,hz,h2,h3⟩
  ·have:=g1 y hy; omega
 ·by_cases hxc : x ∈ v :: e
  ·refine ⟨m,by rw [hh x hx,if_pos hxc],(hsc x hxc).symm.trans (hsc m hm),fun w hw => hmin w (hmax w ((hsc x hxc).trans hw))⟩
  ·rw [hh x hx,if_neg hxc] at hdx ⊢
   exact h1.hds x hx hdx
 ·have h2:=h.keepH x hx hdx
  have hxc : ¬ x ∈ v :: e:=fun hxc => by have:=((h1.stkm x).1 (hcs x hxc)).2.2; omega
  rw [hh x hx,if_neg hxc]; exact h2
 ·rcases h.newN v hvn h.v0 with h2 | h2
  ·exact absurd h2 hv0
  ·omega
theorem TI.empty (h : TI E n [] cnt num hd stk) : stk = []:=by
 cases stk with
 | nil => rfl
 | cons a l =>
   obtain ⟨z,hz, -⟩:=h.gy a (by simp)
   cases hz
theorem TI.start (hn : num.length = n) (hh : hd.length = n) (h0 : ∀ v,v < n→nth num v = 0) (h1 : ∀ v,v < n→nth hd v < 0) : TI E n [] 0 num hd []:=by
 refine ⟨hn,hh,fun v hv => by rw [h0 v hv]; exact Nat.le_refl _,fun v => ⟨fun h => by simp at h,fun h => absurd (h0 v h.1) h.2.1⟩,List.Pairwise.nil,fun v hv _ => h1 v hv,fun z hz => by simp at hz,fun v w hv hv0 => absurd (h0 v hv) hv0,fun v w hv hd9 => by have:=h1 v hv; omega,fun x y hx => by simp at hx,fun y hy => by simp at hy,fun v hv hd9 => by have:=h1 v hv; omega, ?_⟩
 rw [List.filter_eq_nil_iff.2 fun v hv => by simp [h0 v (List.mem_range.1 hv)]]; rfl
theorem TI.fin (h : TI E n [] cnt num hd stk) (hv : ∀ v,v < n→nth num v ≠ 0) {v : Nat} (hvn : v < n) : ∃ m : Nat,nth hd v = (m : Int)∧IsHd E v m:=by
 refine h.hds v hvn ?_
 false_or_by_contra
 rename_i hneg
 have:=(h.stkm v).2 ⟨hvn,hv v hvn,by omega⟩
 rw [h.empty] at this; cases this
theorem TI.nd (h : TI E n gray cnt num hd stk) : stk.Nodup:=h.stko.imp fun {a b} hab (e : a = b) => by rw [e] at hab; exact Nat.lt_irrefl _ hab
theorem TI.slen (h : TI E n gray cnt num hd stk) : stk.length ≤ n:=by
 have:=Go.Kah.nodup_le stk (List.range n) h.nd fun x hx => List.mem_range.2 (h.lt hx)
 rwa [List.length_range] at this
theorem TI.cle (h : TI E n gray cnt num hd stk) : cnt ≤ n:=by
 rw [h.cnv]
 exact Nat.le_trans (List.length_filter_le _ _) (by rw [List.length_range]; exact Nat.le_refl _)
theorem TI.clt (h : TI E n gray cnt num hd stk) (hv : v < n) (h0 : nth num v = 0) : cnt < n:=by
 rw [h.cnv]
 have h1 : (((List.range n).filter fun v => decide (nth num v ≠ 0))).length < (List.range n).length:=by
  rw [List.length_filter_lt_length_iff_exists]
  exact ⟨v,List.mem_range.2 hv,by simp [h0]⟩
 rwa [List.length_range] at h1
end
end Go.Tj
namespace Go.Hpl
open Go.RowKit Go.Dfl
def swp (l : List Nat) (i j : Nat) : List Nat:=(l.set i (nth l j)).set j (nth l i)
theorem nth_get {l : List Nat} {i : Nat} (h : i < l.length) : nth l i = l[i]:=by unfold nth; simp [h]
theorem swp_perm {l : List Nat} {i j : Nat} (hi : i < l.length) (hj : j < l.length) : (swp l i j).Perm l:=by
 unfold swp
 rw [nth_get hi,nth_get hj]
 exact List.set_set_perm hi hj
theorem nth_swp {l : List Nat} {i j : Nat} (hi : i < l.length) (hj : j < l.length) (k : Nat) : nth (swp l i j) k = if k = j then nth l i else if k = i then nth l j else nth l k:=by
 unfold swp nth
 by_cases h1 : k = j
 ·subst h1; simp [hj]
 ·by_cases h2 : k = i
  ·subst h2; simp [h1,Ne.symm h1,hi]
  ·simp [h1,h2,Ne.symm h1,Ne.symm h2]
def HeapN (l : List Nat) (n : Nat) : Prop:=∀ c,0 < c→c < n→nth l ((c - 1) / 2) ≤ nth l c
theorem HeapN.root {l : List Nat} {n : Nat} (h : HeapN l n) : ∀ c,c < n→nth l 0 ≤ nth l c:=by
 intro c
 induction c using Nat.strongRecOn with
 | ind c ih =>
   intro hc
   by_cases h0 : c = 0
   ·subst h0; exact Nat.le_refl _
   ·exact Nat.le_trans (ih ((c - 1) / 2) (by omega) (by omega)) (h c (by omega) hc)
structure UpI (l : List Nat) (n j : Nat) : Prop where
 a : ∀ c,0 < c→c < n→c ≠ j→nth l ((c - 1) / 2) ≤ nth l c
 b : ∀ c,0 < c→c < n→(c - 1) / 2 = j→0 < j→nth l ((j - 1) / 2) ≤ nth l c
theorem UpI.start {l : List Nat} (h : HeapN l l.length) (x : Nat) : UpI (l ++ [x]) (l.length + 1) l.length:=by
 refine ⟨fun c h0 h1 h2 => ?_,fun c h0 h1 h2 _ => by omega⟩
 have hk : ∀ k,k < l.length→nth (l ++ [x]) k = nth l k:=fun k hk => by unfold nth; simp [List.getElem?_append_left hk]
 rw [hk _ (by omega),hk _ (by omega)]
 exact h c h0 (by omega)
theorem UpI.step {l : List Nat} {n j : Nat} (h : UpI l n j) (hn : n = l.length) (h0 : 0 < j) (hj : j < n) (hlt : nth l j < nth l ((j - 1) / 2)) : UpI (swp l ((j - 1) / 2) j) n ((j - 1) / 2):=by
 have hi : (j - 1) / 2 < l.length:=by omega
 have hj' : j < l.length:=by omega
 have hp : (j - 1) / 2 < j:=by omega
 generalize he : (j - 1) / 2 = i at hi hp hlt ⊢
 refine ⟨fun c c0 c1 c2 => ?_,fun c c0 c1 c2 i0 => ?_⟩
 ·rw [nth_swp hi hj',nth_swp hi hj']
  by_cases e1 : c = j
  ·subst e1
   rw [he,if_neg (by omega),if_pos rfl,if_pos rfl]; omega
  ·rw [if_neg e1,if_neg c2]
   have h1:=h.a c c0 c1 e1
   by_cases e2 : (c - 1) / 2 = j
   ·rw [if_pos e2]; have:=h.b c c0 c1 e2 h0; rw [he] at this; exact this
   ·rw [if_neg e2]
    by_cases e3 : (c - 1) / 2 = i
    ·rw [if_pos e3]; rw [e3] at h1; omega
    ·rw [if_neg e3]; exact h1
 ·have hii:=h.a i i0 (by omega) (by omega)
  have hpi : (i - 1) / 2 < i:=by omega
  rw [nth_swp hi hj',nth_swp hi hj',if_neg (by omega),if_neg (by omega)]
  by_cases e1 : c = j
  ·rw [if_pos e1]; exact hii
  ·rw [if_neg e1,if_neg (by omega)]
   have:=h.a c c0 c1 e1; rw [c2] at this; omega
theorem UpI.fin {l : List Nat} {n j : Nat} (h : UpI l n j) (he : j = 0 ∨ nth l ((j - 1) / 2) ≤ nth l j) : HeapN l n:=by
 intro c h0 h1
 by_cases e : c = j
 ·subst e; rcases he with e | e
  ·omega
  ·exact e
 ·exact h.a c h0 h1 e
structure DnI (l : List Nat) (n i : Nat) : Prop where
 a : ∀ c,0 < c→c < n→(c - 1) / 2 ≠ i→nth l ((c - 1) / 2) ≤ nth l c
 b : ∀ c,0 < c→c < n→(c - 1) / 2 = i→0 < i→nth l ((i - 1) / 2) ≤ nth l c
theorem DnI.start {l : List Nat} {n : Nat} (hn : n + 1 = l.length) (h : HeapN l l.length) : DnI (swp l 0 n) n 0:=by
 refine ⟨fun c c0 c1 c2 => ?_,fun c c0 c1 c2 c3 => by omega⟩
 rw [nth_swp (by omega) (by omega),nth_swp (by omega) (by omega),if_neg (by omega),if_neg c2,if_neg (by omega),if_neg (by omega)]
 exact h c c0 (by omega)
theorem DnI.step {l : List Nat} {n i j : Nat} (h : DnI l n i) (hn : n ≤ l.length) (h0 : 0 < j) (hj : j < n) (hp : (j - 1) / 2 = i) (hlt : nth l j < nth l i) (hle : ∀ c,0 < c→c < n→(c - 1) / 2 = i→nth l j ≤ nth l c) : DnI (swp l i j) n j:=by
 have hi : i < l.length:=by omega
 have hj' : j < l.length:=by omega
 refine ⟨fun c c0 c1 c2 => ?_,fun c c0 c1 c2 _ => ?_⟩
 ·rw [nth_swp hi hj',nth_swp hi hj',if_neg c2]
  by_cases e1 : c = j
  ·rw [if_pos (by subst e1; exact hp),if_pos e1]; omega
  ·rw [if_neg e1]
   by_cases e2 : (c - 1) / 2 = i
   ·rw [if_pos e2,if_neg (by omega)]; exact hle c c0 c1 e2
   ·rw [if_neg e2]
    by_cases e3 : c = i
    ·rw [if_pos e3]; rw [e3]; exact h.b j h0 hj hp (by omega)
    ·rw [if_neg e3]; exact h.a c c0 c1 e2
 ·rw [nth_swp hi hj',nth_swp hi hj',if_neg (by omega),if_pos (by omega),if_neg (by omega),if_neg (by omega)]
  have:=h.a c c0 c1 (by omega); rw [c2] at this; exact this
theorem DnI.fin {l : List Nat} {n i : Nat} (h : DnI l n i) (he : ∀ c,0 < c→c < n→(c - 1) / 2 = i→nth l i ≤ nth l c) : HeapN l n:=by
 intro c h0 h1
 by_cases e : (c - 1) / 2 = i
 ·rw [e]; exact he c h0 h1 e
 ·exact h.a c h0 h1 e
end Go.Hpl
end
section
namespace Go.Tj
open Go.Dfl (nth nth_set nth_mem mem_nth nth_eq nth_ext nth_append take_snoc)
structure Ts where
 cnt : Nat
 num : List Nat
 low : List Nat
 hd : List Int
 stk : List Nat
structure Tf where
 v : Nat
 k : Nat
 s0 : Ts
section
variable (E : Nat→Nat→Prop) (n : Nat) (row : Nat→List Nat)
def grayF : List Tf→List Nat
 | [] => []
 | f :: r => grayF r ++ [f.v]
def linkF (f : Tf) : List Tf→Prop
 | [] => True
 | g :: _ => g.k < (row g.v).length∧nth (row g.v) g.k = f.v
def FsOk : List Tf→Ts→Prop
 | [],s => TI E n [] s.cnt s.num s.hd s.stk∧s.low.length = n
 | f :: r,s => TL E n (grayF r) f.v (row f.v) f.s0.cnt f.s0.num f.s0.low f.s0.hd f.s0.stk f.k s.cnt s.num s.low s.hd s.stk∧linkF row f r∧FsOk r f.s0
end
section
variable {E : Nat→Nat→Prop} {n : Nat} {row : Nat→List Nat}
theorem FsOk.inv {F : List Tf} {s : Ts} (h : FsOk E n row F s) : TI E n (grayF F) s.cnt s.num s.hd s.stk∧s.low.length = n:=by
 cases F with
 | nil => exact h
 | cons f r => exact ⟨h.1.inv,h.1.lenL⟩
theorem FsOk.root {s : Ts} (h : FsOk E n row [] s) {v : Nat} (hv : v < n) (h0 : nth s.num v = 0) : FsOk E n row [⟨v,0,s⟩] ⟨s.cnt + 1,s.num.set v (s.cnt + 1),s.low.set v (s.cnt + 1),s.hd,s.stk ++ [v]⟩ :=
 ⟨TL.enter h.1 h.2 hv h0 (fun z hz => by cases hz),trivial,h⟩
theorem FsOk.push {g : Tf} {r : List Tf} {s : Ts} (h : FsOk E n row (g :: r) s) (hrow : ∀ v w,E v w ↔ w ∈ row v) {w : Nat} (hk : g.k < (row g.v).length) (hw : nth (row g.v) g.k = w) (hwn : w < n) (h0 : nth s.num w = 0) :
  FsOk E n row (⟨w,0,s⟩ :: g :: r) ⟨s.cnt + 1,s.num.set w (s.cnt + 1),s.low.set w (s.cnt + 1),s.hd,s.stk ++ [w]⟩ :=
 ⟨TL.enter h.1.inv h.1.lenL hwn h0 (h.1.reach ((hrow _ _).2 (by rw [← hw]; exact nth_mem _ _ hk))),⟨hk,hw⟩,h⟩
theorem FsOk.back {g : Tf} {r : List Tf} {s : Ts} (h : FsOk E n row (g :: r) s) (hrow : ∀ v w,E v w ↔ w ∈ row v) {w : Nat} (hk : g.k < (row g.v).length) (hw : nth (row g.v) g.k = w) (hwn : w < n) (h0 : nth s.num w ≠ 0) (h1 : nth s.hd w < 0) :
  FsOk E n row (⟨g.v,g.k + 1,g.s0⟩ :: r) ⟨s.cnt,s.num,s.low.set g.v (min (nth s.low g.v) (nth s.num w)),s.hd,s.stk⟩ :=
 ⟨h.1.back hw.symm ((hrow _ _).2 (by rw [← hw]; exact nth_mem _ _ hk)) hwn h0 h1,by
  cases r with
  | nil => trivial
  | cons q r => exact h.2.1,h.2.2⟩
theorem FsOk.done {g : Tf} {r : List Tf} {s : Ts} (h : FsOk E n row (g :: r) s) {w : Nat} (hw : nth (row g.v) g.k = w) (h0 : nth s.num w ≠ 0) (h1 : 0 ≤ nth s.hd w) : FsOk E n row (⟨g.v,g.k + 1,g.s0⟩ :: r) s :=
 ⟨h.1.done hw.symm h0 h1,by
  cases r with
  | nil => trivial
  | cons q r => exact h.2.1,h.2.2⟩
theorem FsOk.pop {f : Tf} {r : List Tf} {s s' : Ts} (h : FsOk E n row (f :: r) s) (hrow : ∀ v w,E v w ↔ w ∈ row v) (hp : TP E n (grayF r) f.v f.s0.cnt f.s0.num f.s0.low f.s0.hd f.s0.stk s'.cnt s'.num s'.low s'.hd s'.stk) :
  match r with
  | [] => FsOk E n row [] s'
  | g :: q => FsOk E n row (⟨g.v,g.k + 1,g.s0⟩ :: q) ⟨s'.cnt,s'.num,s'.low.set g.v (min (nth s'.low g.v) (nth s'.low f.v)),s'.hd,s'.stk⟩:=by
 cases r with
 | nil => exact ⟨hp.inv,hp.lenL⟩
 | cons g q =>
   obtain ⟨h1,⟨hk,hw⟩,h3⟩:=h
   exact ⟨h3.1.child hw.symm ((hrow _ _).2 (by rw [← hw]; exact nth_mem _ _ hk)) hp,by
    cases q with
    | nil => trivial
    | cons y q => exact h3.2.1,h3.2.2⟩
theorem FsOk.leave1 {f : Tf} {r : List Tf} {s : Ts} (h : FsOk E n row (f :: r) s) (hrow : ∀ v w,E v w ↔ w ∈ row v) (hk : f.k = (row f.v).length) (hlt : nth s.low f.v < nth s.num f.v) : TP E n (grayF r) f.v f.s0.cnt f.s0.num f.s0.low f.s0.hd f.s0.stk s.cnt s.num s.low s.hd s.stk :=
 h.1.exit1 hk (hrow f.v) hlt
theorem FsOk.leave2 {f : Tf} {r : List Tf} {s : Ts} (h : FsOk E n row (f :: r) s) (hrow : ∀ v w,E v w ↔ w ∈ row v) (hE9 : ∀ a b,E a b→b < n) (hk : f.k = (row f.v).length) (hge : ¬ nth s.low f.v < nth s.num f.v) :
  ∃ c,s.stk = f.s0.stk ++ f.v :: c∧∀ m,m ∈ f.v :: c→(∀ x ∈ f.v :: c,m ≤ x)→∀ hd' : List Int,hd'.length = n→(∀ x,x < n→nth hd' x = if x ∈ f.v :: c then (m : Int) else nth s.hd x) →
   TP E n (grayF r) f.v f.s0.cnt f.s0.num f.s0.low f.s0.hd f.s0.stk s.cnt s.num s.low hd' f.s0.stk:=by
 obtain ⟨e,he, -⟩:=h.1.ext
 exact ⟨e,he,fun m hm hmin hd' hl hh => h.1.exit2 hE9 hk (hrow f.v) hge he hm hmin hl hh⟩
end
def offH (N : Nat) (hd : List Int) : Nat:=((List.range N).filter fun v => decide (0 ≤ nth hd v∧nth hd v ≠ (v : Int))).length
theorem filter_ne_len : ∀ {l : List Nat} {m : Nat},l.Nodup→m ∈ l→(l.filter fun x => decide (x ≠ m)).length = l.length - 1
 | [],_,_,h => by cases h
 | a :: l,m,hn,h => by
   rw [List.nodup_cons] at hn
   by_cases e : a = m
   ·subst e
    rw [List.filter_cons_of_neg (by simp),List.filter_eq_self.2 (fun x hx => by simp; intro e; subst e; exact hn.1 hx)]; simp
   ·have hm : m ∈ l:=by
     rcases List.mem_cons.1 h with h | h
     ·exact absurd h.symm e
     ·exact h
    have:=List.length_pos_of_mem hm
    rw [List.filter_cons_of_pos (by simpa using e),List.length_cons,filter_ne_len hn.2 hm,List.length_cons]; omega
theorem off_close {n N : Nat} {C : List Nat} {m : Nat} {hd hd' : List Int} (hN : N ≤ n) (hC : C.Nodup) (hneg : ∀ x ∈ C,nth hd x < 0) (hm : m ∈ C) (hmin : ∀ x ∈ C,m ≤ x) (hh : ∀ x,x < n→nth hd' x = if x ∈ C then (m : Int) else nth hd x) :
  offH N hd' = offH N hd + ((C.filter fun x => decide (x < N)).length - 1):=by
 have hp : ((List.range N).filter fun v => decide (0 ≤ nth hd' v∧nth hd' v ≠ (v : Int))).Perm (((List.range N).filter fun v => decide (0 ≤ nth hd v∧nth hd v ≠ (v : Int))) ++ ((C.filter fun x => decide (x < N)).filter fun x => decide (x ≠ m))):=by
  refine (List.perm_ext_iff_of_nodup ((List.nodup_range).filter _) ?_).2 fun v => ?_
  ·rw [List.nodup_append]
   refine ⟨(List.nodup_range).filter _,(hC.filter _).filter _,fun a ha b hb e => ?_⟩
   subst e
   rw [List.mem_filter,decide_eq_true_eq] at ha
   have:=hneg a (List.mem_filter.1 (List.mem_filter.1 hb).1).1
   omega
  ·simp only [List.mem_append,List.mem_filter,List.mem_range,decide_eq_true_eq]
   constructor
   ·rintro ⟨h1,h2,h3⟩
    rw [hh v (by omega)] at h2 h3
    by_cases hv : v ∈ C
    ·rw [if_pos hv] at h3
     exact .inr ⟨⟨hv,h1⟩,by omega⟩
    ·rw [if_neg hv] at h2 h3
     exact .inl ⟨h1,h2,h3⟩
   ·rintro (⟨h1,h2,h3⟩ | ⟨⟨hv,h1⟩,h2⟩)
    ·have hv : ¬ v ∈ C:=fun hv => by have:=hneg v hv; omega
     rw [hh v (by omega),if_neg hv]
     exact ⟨h1,h2,h3⟩
    ·rw [hh v (by omega),if_pos hv]
     exact ⟨h1,by omega,by omega⟩
 unfold offH
 rw [hp.length_eq,List.length_append]
 congr 1
 by_cases hmN : m < N
 ·exact filter_ne_len (hC.filter _) (List.mem_filter.2 ⟨hm,by simpa using hmN⟩)
 ·have : (C.filter fun x => decide (x < N)) = []:=List.filter_eq_nil_iff.2 fun x hx => by have:=hmin x hx; simp; omega
  rw [this]; rfl
theorem off_unique {E : Nat→Nat→Prop} {n N : Nat} {hd hd' : List Int} (hN : N ≤ n) (h : ∀ v,v < n→∃ m : Nat,nth hd v = (m : Int)∧IsHd E v m) (h' : ∀ v,v < n→∃ m : Nat,nth hd' v = (m : Int)∧IsHd E v m) : offH N hd = offH N hd':=by
 unfold offH
 congr 1
 refine List.filter_congr fun v hv => ?_
 have hvn : v < n:=by have:=List.mem_range.1 hv; omega
 obtain ⟨m,h1,h2⟩:=h v hvn
 obtain ⟨m',h3,h4⟩:=h' v hvn
 rw [h1,h3,h2.unique h4]
end Go.Tj
end
section
namespace Go.Clp
open Go.Dfl (nth nth_set nth_mem mem_nth nth_eq nth_ext nth_append nth_out take_snoc)
open Go.Tj (Rt Sc IsHd)
open Go.And (R Sy)
def copE (l : List R) : List (Int × Int):=(l.filter fun c => decide (c.k = 2)).map fun c => (c.a,c.b)
theorem copE_yes {l : List R} {k : Nat} (hk : k < l.length) (h : (nth l k).k = 2) : copE (l.take (k + 1)) = copE (l.take k) ++ [((nth l k).a,(nth l k).b)]:=by
 unfold copE; rw [take_snoc _ _ hk,List.filter_append,List.map_append]; simp [h]
theorem copE_no {l : List R} {k : Nat} (hk : k < l.length) (h : (nth l k).k ≠ 2) : copE (l.take (k + 1)) = copE (l.take k):=by
 unfold copE; rw [take_snoc _ _ hk,List.filter_append,List.map_append]; simp [h]
theorem copE_len (l : List R) : (copE l).length ≤ l.length:=by
 unfold copE; rw [List.length_map]; exact List.length_filter_le _ _
theorem mem_copE {l : List R} {e : Int × Int} : e ∈ copE l ↔ ∃ c ∈ l,c.k = 2∧c.a = e.1∧c.b = e.2:=by
 unfold copE
 simp only [List.mem_map,List.mem_filter,decide_eq_true_eq]
 constructor
 ·rintro ⟨c,⟨h1,h2⟩,rfl⟩; exact ⟨c,h1,h2,rfl,rfl⟩
 ·rintro ⟨c,h1,h2,h3,h4⟩; exact ⟨c,⟨h1,h2⟩,Prod.ext h3 h4⟩
def eI (es : List (Int × Int)) (a b : Nat) : Prop:=((a : Int),(b : Int)) ∈ es
def Lds (E : Nat→Nat→Prop) (n : Nat) (l : List Int) : Prop:=l.length = n∧∀ v,v < n→∃ m : Nat,nth l v = (m : Int)∧IsHd E v m
theorem Lds.unique {E : Nat→Nat→Prop} {n : Nat} {l m : List Int} (h : Lds E n l) (k : Lds E n m) : l = m:=nth_ext (h.1.trans k.1.symm) fun i hi => by
 obtain ⟨a,h1,h2⟩:=h.2 i (by have:=h.1; omega)
 obtain ⟨b,k1,k2⟩:=k.2 i (by have:=h.1; omega)
 rw [h1,k1,h2.unique k2]
theorem rt_imp {E F : Nat→Nat→Prop} (h : ∀ a b,E a b→F a b) {a b : Nat} (hr : Rt E a b) : Rt F a b:=by
 induction hr with
 | refl => exact .refl _
 | step _ hc ih => exact .step ih (h _ _ hc)
theorem sc_imp {E F : Nat→Nat→Prop} (h : ∀ a b,E a b→F a b) {a b : Nat} (hr : Sc E a b) : Sc F a b:=⟨rt_imp h hr.1,rt_imp h hr.2⟩
theorem IsHd.iff {E F : Nat→Nat→Prop} (h : ∀ a b,E a b ↔ F a b) {v m : Nat} (hh : IsHd E v m) : IsHd F v m :=
 ⟨sc_imp (fun a b => (h a b).1) hh.1,fun w hw => hh.2 w (sc_imp (fun a b => (h a b).2) hw)⟩
theorem Lds.iff {E F : Nat→Nat→Prop} (h : ∀ a b,E a b ↔ F a b) {n : Nat} {l : List Int} (hl : Lds E n l) : Lds F n l :=
 ⟨hl.1,fun v hv => by obtain ⟨m,h1,h2⟩:=hl.2 v hv; exact ⟨m,h1,IsHd.iff h h2⟩⟩
section
variable {E : Nat→Nat→Prop} {n : Nat} {l : List Int}
theorem rt_lt (hE : ∀ a b,E a b→a < n∧b < n) {a b : Nat} (h : Rt E a b) (ha : a < n) : b < n:=h.closed (P:=fun x => x < n) (fun x y _ hy => (hE x y hy).2) ha
theorem Lds.le (h : Lds E n l) {v : Nat} (hv : v < n) : 0 ≤ nth l v∧nth l v ≤ v∧nth l v < n:=by
 obtain ⟨m,h1,h2⟩:=h.2 v hv
 have:=h2.2 v (Sc.refl E v)
 omega
theorem Lds.hd (h : Lds E n l) {v : Nat} (hv : v < n) : IsHd E v (nth l v).toNat:=by
 obtain ⟨m,h1,h2⟩:=h.2 v hv
 rw [h1]; exact h2
theorem Lds.self (h : Lds E n l) {v : Nat} (hv : v < n) : nth l (nth l v).toNat = nth l v:=by
 obtain ⟨m,h1,h2⟩:=h.2 v hv
 have hm : m < n:=by have:=h2.2 v (Sc.refl E v); omega
 rw [h1]
 obtain ⟨q,k1,k2⟩:=h.2 m hm
 rw [show ((m : Int)).toNat = m from rfl,k1,k2.unique (h2.congr h2.1)]
end
def headsTo (l : List Int) (n : Nat) : List Nat:=(List.range n).filter fun v => decide (nth l v = (v : Int))
def memL (l : List Int) (n h : Nat) : List Int:=((List.range n).filter fun v => decide (nth l v = (h : Int))).map fun v : Nat => (v : Int)
def bigB (c : List Int) : Bool:=decide (2 ≤ c.length)
def cycL (l : List Int) (n : Nat) : List (List Int):=((headsTo l n).map (memL l n)).filter bigB
theorem mem_headsTo {l : List Int} {n v : Nat} : v ∈ headsTo l n ↔ v < n∧nth l v = (v : Int):=by simp [headsTo]
theorem mem_memL {l : List Int} {n h : Nat} {x : Int} : x ∈ memL l n h ↔ ∃ v : Nat,x = v∧v < n∧nth l v = (h : Int):=by
 simp only [memL,List.mem_map,List.mem_filter,List.mem_range,decide_eq_true_eq]
 constructor
 ·rintro ⟨j,⟨h1,h2⟩,rfl⟩; exact ⟨j,rfl,h1,h2⟩
 ·rintro ⟨j,rfl,h1,h2⟩; exact ⟨j,⟨h1,h2⟩,rfl⟩
theorem memL_sorted (l : List Int) (n h : Nat) : (memL l n h).Pairwise (· < ·):=by
 unfold memL
 rw [List.pairwise_map]
 exact (List.pairwise_lt_range.filter _).imp fun {a b} hab => by omega
theorem memL_len (l : List Int) (n h : Nat) : (memL l n h).length ≤ n:=by
 unfold memL; rw [List.length_map]; exact Nat.le_trans (List.length_filter_le _ _) (by simp)
theorem memL_head {E : Nat→Nat→Prop} {l : List Int} {n h : Nat} (hl : Lds E n l) (hh : h ∈ headsTo l n) : 0 < (memL l n h).length∧nth (memL l n h) 0 = (h : Int):=by
 obtain ⟨h1,h2⟩:=mem_headsTo.1 hh
 have hm : (h : Int) ∈ memL l n h:=mem_memL.2 ⟨h,rfl,h1,h2⟩
 have hpos:=List.length_pos_of_mem hm
 refine ⟨hpos, ?_⟩
 obtain ⟨i,hi,he⟩:=mem_nth hm
 obtain ⟨v,hv,hvn,hvh⟩:=mem_memL.1 (nth_mem _ _ hpos)
 have hle:=(hl.le hvn).2.1
 rw [hvh] at hle
 by_cases e : i = 0
 ·rw [e] at he; exact he
 ·have:=List.pairwise_iff_getElem.1 (memL_sorted l n h) 0 i hpos hi (by omega)
  rw [← nth_eq _ _ hpos, ← nth_eq _ _ hi,he,hv] at this
  omega
theorem headsTo_sorted (l : List Int) (n : Nat) : (headsTo l n).Pairwise (· < ·):=List.pairwise_lt_range.filter _
theorem perm_eq {α : Type} (key : α→Int) : ∀ {l m : List α},l.Perm m→l.Pairwise (fun a b => key a < key b)→m.Pairwise (fun a b => key a < key b)→l = m
 | [],m,h,_,_ => h.nil_eq
 | a :: l,m,h,h1,h2 => by
   cases m with
   | nil => exact absurd h.symm.nil_eq (by simp)
   | cons b m =>
     rw [List.pairwise_cons] at h1 h2
     have e : a = b:=by
      have ha : a ∈ b :: m:=h.subset (by simp)
      have hb : b ∈ a :: l:=h.symm.subset (by simp)
      rcases List.mem_cons.1 ha with ha | ha
      ·exact ha
      ·rcases List.mem_cons.1 hb with hb | hb
       ·exact hb.symm
       ·have:=h1.1 b hb; have:=h2.1 a ha; omega
     subst e
     rw [perm_eq key (List.Perm.cons_inv h) h1.2 h2.2]
def key (c : List Int) : Int:=nth c 0
theorem cycL_sorted {E : Nat→Nat→Prop} {l : List Int} {n : Nat} (hl : Lds E n l) : (cycL l n).Pairwise fun a b => key a < key b:=by
 refine List.Pairwise.filter _ (List.pairwise_map.2 ?_)
 refine List.Pairwise.imp_of_mem (fun {a b} ha hb hab => ?_) (headsTo_sorted l n)
 unfold key
 rw [(memL_head hl ha).2,(memL_head hl hb).2]; omega
theorem mem_cycL {l : List Int} {n : Nat} {c : List Int} : c ∈ cycL l n ↔ (∃ h,h ∈ headsTo l n∧c = memL l n h)∧2 ≤ c.length:=by
 unfold cycL bigB
 simp only [List.mem_filter,List.mem_map,decide_eq_true_eq]
 constructor
 ·rintro ⟨⟨h,h1,h2⟩,h3⟩; exact ⟨⟨h,h1,h2.symm⟩,h3⟩
 ·rintro ⟨⟨h,h1,h2⟩,h3⟩; exact ⟨⟨h,h1,h2.symm⟩,h3⟩
theorem cycL_of {E : Nat→Nat→Prop} {l : List Int} {n : Nat} (hl : Lds E n l) {L : List Nat} (hn : L.Nodup) (hm : ∀ v,v ∈ L ↔ v < n∧nth l v = (v : Int)) {ls : List (List Int)}
  (hp : ls.Perm ((L.map (memL l n)).filter bigB)) (hs : ls.Pairwise fun a b => ¬ key b < key a) : ls = cycL l n:=by
 have hL : L.Perm (headsTo l n):=(List.perm_ext_iff_of_nodup hn ((List.nodup_range).filter _)).2 fun v => (hm v).trans mem_headsTo.symm
 have h1 : ls.Perm (cycL l n):=hp.trans ((hL.map _).filter _)
 refine perm_eq key h1 ?_ (cycL_sorted hl)
 have hnd : ls.Nodup:=h1.symm.nodup ((cycL_sorted hl).imp fun {a b} hab e => by subst e; omega)
 refine List.Pairwise.imp_of_mem (R:=fun a b => ¬ key b < key a∧a ≠ b) (fun {a b} ha hb hab => ?_) ?_
 ·obtain ⟨⟨x,hx,rfl⟩, -⟩:=mem_cycL.1 (h1.subset ha)
  obtain ⟨⟨y,hy,rfl⟩, -⟩:=mem_cycL.1 (h1.subset hb)
  have e1:=(memL_head hl hx).2
  have e2:=(memL_head hl hy).2
  unfold key at *
  rw [e1,e2] at hab ⊢
  by_cases e : x = y
  ·subst e; exact absurd rfl hab.2
  ·omega
 ·exact List.pairwise_and_iff.2 ⟨hs,hnd⟩
end Go.Clp
end
