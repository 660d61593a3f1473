/- Texts of the claim, merged. -/
import Derived.Deep.Cut
import Derived.ProofKit
import Derived.OpenShut
import Derived.ShutString
import Derived.ChangeOld
import Derived.Deep.SlicePairs
import Derived.Deep.Slices
import Derived.Test.YtgblfjccccdidaaGreatVZd
section
namespace Go.Proofs.YtgblfjccccdidaaGreat
open Go.RowKit Go.Dfl Go.Gra Go.Tj
theorem raw_ownC {α : Type} {f : α→Value} {w : World} {base : Nat} {e : TypeId} {b n : Nat} (x0 : α) (h : w.ownsRow base e 1 (.slice (some ⟨b,0,none⟩) n n) n (madeCells (f x0).cells (n * 1)).toList) (hz : (f x0).cells = #[f x0]) : Go.Dfl.Own f w base e (.slice (some ⟨b,0,none⟩) n n) (List.replicate n x0):=by
 rw [made_cells (f x0) n hz] at h
 unfold Go.Dfl.Own
 simpa using h
def mksC (n : Nat) : List Go.Dfl.N.Mk:=[Go.Dfl.N.mkS 2 11 10 3 n (.int .i64 0) 1,Go.Dfl.N.mkS 4 13 12 3 n (.int .i64 0) 1,Go.Dfl.N.mkS 6 15 14 3 n (.int .i64 0) 1,Go.Dfl.N.mkS 8 17 16 4 n (.bool false) 1]
def CompC (N n bm : Nat) (rw : Nat→List Nat) (W : World) (e : Ending) (W' : World) : Prop :=
 e = .returned (.tuple #[])∧∃ hd : List Int,hd.length = n∧(∀ v,v < n→∃ m : Nat,nth hd v = (m : Int)∧IsHd (eC rw) v m)∧W'.cell? ⟨bm,0,none⟩ = some (.int .i64 ((offH N hd : Nat) : Int))∧W'.frozen? ⟨bm,0,none⟩ = false∧W.grownBy W' (some bm)
def cLay (n bs bm b0 qn qi ql qo bt : Nat) (vars : Int) (su : Option Addr) (cu : Nat) (us : List Value) (ll : List (List Int)) (W0 : World) : CL :=
 { bt:=bt,bm:=bm,bs:=bs,sn:=some ⟨qn,0,none⟩,si:=some ⟨qi,0,none⟩,sl:=some ⟨ql,0,none⟩,so:=some ⟨qo,0,none⟩,cn:=n,ci:=n,cl:=n,co:=n,su:=su,cu:=cu,us:=us,B0:=b0,B:=bt + 1,
   rl:=fun q => if q = bt then 1 else if q = qn then 2 else if q = qi then 3 else if q = ql then 4 else if q = qo then 5 else if q = bm then 6 else 0,W0:=W0,n:=n,vars:=vars,ll:=ll }
theorem castL_zero (n : Nat) : castL (List.replicate n 0) = List.replicate n (0 : Int):=by unfold castL; rw [List.map_replicate]; rfl
structure CpR (L : CL) (rw : Nat→List Nat) (k : Nat) (s : Ts) (nx : List Nat) (op : List Bool) (mg : Nat) (W : World) : Prop where
 ok : FsOk (eC rw) L.n rw [] s
 nx0 : ∀ x,x < L.n→nth s.num x = 0→nth nx x = 0
 hop : ∀ x,x < L.n→nth op x = decide (nth s.num x ≠ 0∧nth s.hd x < 0)
 hmg : mg = offH L.vars.toNat s.hd
 met : ∀ x,x < k→nth s.num x ≠ 0
 hm : ClW L nx s.num s.low op s.stk s.cnt mg (.slice none 0 0) [] W
set_option maxHeartbeats 6400000 in
set_option maxRecDepth 100000 in
theorem components_any (n bs bm b0 : Nat) (vars : Int) (su : Option Addr) (cu : Nat) (us : List Value) (ll : List (List Int)) (rw : Nat→List Nat) (W : World)
  (hn8 : n ≤ 8192) (hvars : 0 ≤ vars) (hN : vars.toNat ≤ n) (hs : W.cell? ⟨bs,0,none⟩ = some (.int .i64 vars)) (hm : W.cell? ⟨bm,0,none⟩ = some (.int .i64 0)) (hmf : W.frozen? ⟨bm,0,none⟩ = false) (hbm : b0 ≤ bm) (hne : bs ≠ bm)
  (hsu : OwnN IIg W b0 32 (.slice su n cu) us ll) (hll : ll.length = n) (hfoot : ∀ q,Foot (.slice su n cu) us q→q ≠ bm)
  (hrw : ∀ v,v < n→nth ll v = castL (rw v)) (hlt : ∀ v w,w ∈ rw v→v < n∧w < n) (hsz : ∀ v,(rw v).length ≤ 1000000) :
  Calls Tryz.prog 33 #[.slice su n cu,.func (.func 35) #[] #[.pointer (some ⟨bs,0,none⟩),.pointer (some ⟨bm,0,none⟩)]] W (CompC vars.toNat n bm rw W):=by
 have hbmW : bm < W.heap.size:=World.block_lt_of_cell? W _ hm
 have hbsW : bs < W.heap.size:=World.block_lt_of_cell? W _ hs
 have HA:=Lib.hid (And.intro hs (And.intro hm (And.intro hmf (And.intro hsu (And.intro hfoot (And.intro hrw (And.intro hlt hsz)))))))
 have HB:=Lib.hid (And.intro hvars (And.intro hN (And.intro hbm (And.intro hne (And.intro hll (And.intro hbmW hbsW))))))
 clear hs hm hmf hsu hfoot hrw hlt hsz hvars hN hbm hne hll hbmW hbsW
 go_enter Tryz.func33,Tryz.ntmps33
 go_wp2_with fail
 refine Go.Dfl.N.wp_region_makes [0,1,3,5,7] (mksC n) [9,10,11] (fun _ => True) W.heap.size (Nat.le_refl _) (by kernel_rfl) (by simp [mksC,Go.Dfl.N.mkS]) (by simp [mksC,Go.Dfl.N.mkS]) (by kernel_rfl) (by kernel_rfl) (fun _ _ _ h => h) trivial ?_
 repeat (
  refine wpHeads_cons (v:=?_) rfl (Or.inl ⟨by rfl, ?_⟩) ?_
  rotate_left
  ·(intro W hW; go_simp; try with_reducible rfl)
  simp only [Act.put,List.setIfInBounds_toArray])
 refine wpHeads_nil ?_
 simp only [List.getElem_toArray,List.getElem_cons_zero,List.getElem_cons_succ,List.setIfInBounds_toArray,List.set_cons_zero,List.set_cons_succ]
 refine ⟨?_, ?_⟩
 ·intro m hm
  simp only [mksC,List.mem_cons,List.not_mem_nil,or_false] at hm
  rcases hm with rfl | rfl | rfl | rfl
  ·exact Go.Dfl.N.mkS_at sIntG ⟨_,rfl,rfl,rfl,rfl⟩ (by omega) (by unfold maxLen; omega) rfl
  ·exact Go.Dfl.N.mkS_at sIntG ⟨_,rfl,rfl,rfl,rfl⟩ (by omega) (by unfold maxLen; omega) rfl
  ·exact Go.Dfl.N.mkS_at sIntG ⟨_,rfl,rfl,rfl,rfl⟩ (by omega) (by unfold maxLen; omega) rfl
  ·exact Go.Dfl.N.mkS_at sBoolC ⟨_,rfl,rfl,rfl,rfl⟩ (by omega) (by unfold maxLen; omega) rfl
 intro bq W2 hE hS2
 simp only [mksC,List.foldl_cons,List.foldl_nil,Go.Dfl.N.mkS,List.setIfInBounds_toArray,List.set_cons_zero,List.set_cons_succ]
 obtain ⟨a1,a2,a3⟩:=hE.is (Go.Dfl.N.mkS 2 11 10 3 n (.int .i64 0) 1) (by simp [mksC])
 obtain ⟨b1,b2,b3⟩:=hE.is (Go.Dfl.N.mkS 4 13 12 3 n (.int .i64 0) 1) (by simp [mksC])
 obtain ⟨c1,c2,c3⟩:=hE.is (Go.Dfl.N.mkS 6 15 14 3 n (.int .i64 0) 1) (by simp [mksC])
 obtain ⟨d1,d2,d3⟩:=hE.is (Go.Dfl.N.mkS 8 17 16 4 n (.bool false) 1) (by simp [mksC])
 have x1:=hE.apart (Go.Dfl.N.mkS 2 11 10 3 n (.int .i64 0) 1) (by simp [mksC]) (Go.Dfl.N.mkS 4 13 12 3 n (.int .i64 0) 1) (by simp [mksC]) (by simp [Go.Dfl.N.mkS])
 have x2:=hE.apart (Go.Dfl.N.mkS 2 11 10 3 n (.int .i64 0) 1) (by simp [mksC]) (Go.Dfl.N.mkS 6 15 14 3 n (.int .i64 0) 1) (by simp [mksC]) (by simp [Go.Dfl.N.mkS])
 have x3:=hE.apart (Go.Dfl.N.mkS 2 11 10 3 n (.int .i64 0) 1) (by simp [mksC]) (Go.Dfl.N.mkS 8 17 16 4 n (.bool false) 1) (by simp [mksC]) (by simp [Go.Dfl.N.mkS])
 have x4:=hE.apart (Go.Dfl.N.mkS 4 13 12 3 n (.int .i64 0) 1) (by simp [mksC]) (Go.Dfl.N.mkS 6 15 14 3 n (.int .i64 0) 1) (by simp [mksC]) (by simp [Go.Dfl.N.mkS])
 have x5:=hE.apart (Go.Dfl.N.mkS 4 13 12 3 n (.int .i64 0) 1) (by simp [mksC]) (Go.Dfl.N.mkS 8 17 16 4 n (.bool false) 1) (by simp [mksC]) (by simp [Go.Dfl.N.mkS])
 have x6:=hE.apart (Go.Dfl.N.mkS 6 15 14 3 n (.int .i64 0) 1) (by simp [mksC]) (Go.Dfl.N.mkS 8 17 16 4 n (.bool false) 1) (by simp [mksC]) (by simp [Go.Dfl.N.mkS])
 have hg:=hE.grown
 clear hE
 simp only [Go.Dfl.N.mkS] at a1 a2 a3 b1 b2 b3 c1 c2 c3 d1 d2 d3 x1 x2 x3 x4 x5 x6
 generalize bq 2 = qn at *
 generalize bq 4 = qi at *
 generalize bq 6 = ql at *
 generalize bq 8 = qo at *
 have oN:=raw_ownC (f:=Value.int .i64) 0 a1 rfl
 have oI:=raw_ownC (f:=Value.int .i64) 0 b1 rfl
 have oL:=raw_ownC (f:=Value.int .i64) 0 c1 rfl
 have oO:=raw_ownC (f:=Value.bool) false d1 rfl
 have hg0 : W.grownBy W2 none:=grownBy_trans (grownBy_drew0 W) hg
 have HM:=Lib.hid (And.intro oN (And.intro oI (And.intro oL (And.intro oO (And.intro hg0 (And.intro (And.intro a2 a3) (And.intro (And.intro b2 b3) (And.intro (And.intro c2 c3) (And.intro (And.intro d2 d3) (And.intro x1 (And.intro x2 (And.intro x3 (And.intro x4 (And.intro x5 x6))))))))))))))
 clear a1 a2 a3 b1 b2 b3 c1 c2 c3 d1 d2 d3 x1 x2 x3 x4 x5 x6 oN oI oL oO hg hg0 hS2
 refine wpTailsH_cons rfl ?_
 go_wp2_with fail
 refine tail_mk trivial ?_
 refine wpTailsH_cons rfl ?_
 go_wp2_with fail
 refine tail_mk trivial ?_
 refine wpTailsH_cons rfl ?_
 go_wp2_with fail
 refine tail_mk trivial ?_
 refine wpTailsH_nil ?_
 obtain ⟨cs,hcs⟩ : ∃ cs : List Value,cs = [.slice su n cu,.slice (some ⟨qn,0,none⟩) n n,.slice (some ⟨qi,0,none⟩) n n,.slice (some ⟨ql,0,none⟩) n n,.slice (some ⟨qo,0,none⟩) n n,.slice none 0 0,.int .i64 0]:=⟨_,rfl⟩
 obtain ⟨W3,hW3⟩ : ∃ W3,W3 = W2.alloc (.cells #[.slice su n cu,.slice (some ⟨qn,0,none⟩) n n,.slice (some ⟨qi,0,none⟩) n n,.slice (some ⟨ql,0,none⟩) n n,.slice (some ⟨qo,0,none⟩) n n,.slice none 0 0,.int .i64 0] 85):=⟨_,rfl⟩
 rw [← hW3]
 have gA : W2.grownBy W3 none:=by rw [hW3]; exact grownBy_alloc _ _
 have g03:=grownBy_trans HM.out.2.2.2.2.1 gA
 have hsz : W3.heap.size = W2.heap.size + 1:=by rw [hW3]; simp
 have hcell : ∀ j y,cs[j]? = some y→W3.cell? ⟨W2.heap.size,j,none⟩ = some y:=by rw [hW3,hcs]; exact cells_new rfl
 have hfz : ∀ j,W3.frozen? ⟨W2.heap.size,j,none⟩ = false:=fun j => by
  have hb:=heap_alloc_new W2 (.cells #[.slice su n cu,.slice (some ⟨qn,0,none⟩) n n,.slice (some ⟨qi,0,none⟩) n n,.slice (some ⟨ql,0,none⟩) n n,.slice (some ⟨qo,0,none⟩) n n,.slice none 0 0,.int .i64 0] 85)
  rw [← hW3] at hb
  simp only [World.frozen?,hb]
  first | rfl | simp
 obtain ⟨bt,hbt⟩ : ∃ bt,bt = W2.heap.size:=⟨_,rfl⟩
 rw [← hbt] at hcell hfz hsz ⊢
 have h02:=HM.out.2.2.2.2.1.size
 obtain ⟨oN,oI,oL,oO, -,⟨a2,a3⟩,⟨b2,b3⟩,⟨c2,c3⟩,⟨d2,d3⟩,x1,x2,x3,x4,x5,x6⟩:=HM.out
 have a2 : W.heap.size ≤ qn:=a2
 have b2 : W.heap.size ≤ qi:=b2
 have c2 : W.heap.size ≤ ql:=c2
 have d2 : W.heap.size ≤ qo:=d2
 obtain ⟨hs,hm,hmf,hsu,hfoot,hrw,hlt,hszr⟩:=HA.out
 obtain ⟨hvars,hN,hbm,hne,hll,hbmW,hbsW⟩:=HB.out
 obtain ⟨L,hL⟩ : ∃ L,L = cLay n bs bm b0 qn qi ql qo bt vars su cu us ll W3:=⟨_,rfl⟩
 have hfw : ∀ q,Foot (.slice su n cu) us q→q < W.heap.size:=fun q hq => (hsu.foot kIIg q hq).2
 have r1 : L.rl bt = 1:=by rw [hL]; simp [cLay]
 have r2 : L.rl qn = 2:=by rw [hL]; simp [cLay]; omega
 have r3 : L.rl qi = 3:=by rw [hL]; simp only [cLay]; rw [if_neg (by omega),if_neg (by omega),if_pos trivial]
 have r4 : L.rl ql = 4:=by rw [hL]; simp only [cLay]; rw [if_neg (by omega),if_neg (by omega),if_neg (by omega),if_pos trivial]
 have r5 : L.rl qo = 5:=by rw [hL]; simp only [cLay]; rw [if_neg (by omega),if_neg (by omega),if_neg (by omega),if_neg (by omega),if_pos trivial]
 have r6 : L.rl bm = 6:=by rw [hL]; simp only [cLay]; rw [if_neg (by omega),if_neg (by omega),if_neg (by omega),if_neg (by omega),if_neg (by omega),if_pos trivial]
 have r0 : ∀ q,q < W.heap.size→q ≠ bm→L.rl q = 0:=fun q hq hqb => by rw [hL]; simp only [cLay]; rw [if_neg (by omega),if_neg (by omega),if_neg (by omega),if_neg (by omega),if_neg (by omega),if_neg hqb]
 have hLB : L.B = bt + 1:=by rw [hL]; rfl
 have hLn : L.n = n:=by rw [hL]; rfl
 have hob : ∀ (b m q : Nat),(Value.slice (some ⟨b,0,none⟩) m m).ownBlock = some q→q = b:=fun b m q e => (Option.some.inj e).symm
 have hb03 : Below b0 W W3:=⟨g03.os,g03.tape,g03.output,g03.size,fun k hk => g03.block k (by omega) (by simp)⟩
 have hS : ClS L:=by
  rw [hL] at r1 r2 r3 r4 r5 r6 r0
  rw [hL]
  refine ⟨⟨r1,by show bt < bt + 1; omega,by show b0 ≤ bt; omega⟩,fun q hq => ?_,fun q hq => ?_,fun q hq => ?_,fun q hq => ?_,⟨r6,by show bm < bt + 1; omega,hbm⟩,⟨g03.cell hs (by simp),r0 bs hbsW hne,by show bs < bt + 1; omega⟩,hsu.grown kIIg g03 (by simp),hll,fun q hq => ⟨r0 q (hfw q hq) (hfoot q hq),by have:=hfw q hq; show q < bt + 1; omega⟩,hn8,by show b0 ≤ bt + 1; omega⟩
  ·obtain rfl:=hob _ _ _ hq; exact ⟨r2,by show q < bt + 1; omega⟩
  ·obtain rfl:=hob _ _ _ hq; exact ⟨r3,by show q < bt + 1; omega⟩
  ·obtain rfl:=hob _ _ _ hq; exact ⟨r4,by show q < bt + 1; omega⟩
  ·obtain rfl:=hob _ _ _ hq; exact ⟨r5,by show q < bt + 1; omega⟩
 have hno : ∀ v : Value,v.ownBlock = none ∨ v.ownBlock ≠ none:=fun v => by cases v.ownBlock <;> simp
 have hCW : ClW L (List.replicate n 0) (List.replicate n 0) (List.replicate n 0) (List.replicate n false) [] 0 0 (.slice none 0 0) [] W3:=by
  have k0:=hcell 0 _ (by rw [hcs]; rfl)
  have k1:=hcell 1 _ (by rw [hcs]; rfl)
  have k2:=hcell 2 _ (by rw [hcs]; rfl)
  have k3:=hcell 3 _ (by rw [hcs]; rfl)
  have k4:=hcell 4 _ (by rw [hcs]; rfl)
  have k5:=hcell 5 _ (by rw [hcs]; rfl)
  have k6:=hcell 6 _ (by rw [hcs]; rfl)
  have hle0 : b0 ≤ W.drew.heap.size:=by show b0 ≤ W.heap.size; omega
  rw [hL]
  refine ⟨⟨k0,k1,k2,k3,k4,k6,hfz⟩,⟨_,k5,Go.Dfl.Own.nil _ _ _ _,fun k hk => by simp [Value.ownBlock] at hk⟩, ?_, ?_, ?_,(oO.grown gA (hno _)).mono hle0,g03.cell hm (by simp), ?_,Go.Dfl.Own.nil _ _ _ _,fun q _ _ => rfl,Below.refl _ _,by show bt + 1 ≤ _; omega,by simp [cLay],by simp [cLay],by simp [cLay],by simp [cLay]⟩
  ·rw [castL_zero]; exact (oN.grown gA (hno _)).mono hle0
  ·rw [castL_zero]; exact (oI.grown gA (hno _)).mono hle0
  ·rw [castL_zero]; exact (oL.grown gA (hno _)).mono hle0
  ·show W3.frozen? ⟨bm,0,none⟩ = false
   rw [World.frozen?_of_block (a:=⟨bm,0,none⟩) (g03.block bm hbmW (by simp))]; exact hmf
 have hnth : ∀ x,nth (List.replicate n (0 : Nat)) x = 0:=fun x => by
  by_cases h : x < n
  ·simp [nth,h]
  ·rw [nth_out _ _ (by simp; omega)]; rfl
 have hnh : ∀ x,x < n→nth (List.replicate n (-1 : Int)) x = -1:=fun x h => by simp [nth,h]
 have hTI : FsOk (eC rw) L.n rw [] ⟨0,List.replicate n 0,List.replicate n 0,List.replicate n (-1), []⟩:=by
  rw [hLn]
  exact ⟨TI.start (by simp) (by simp) (fun v _ => hnth v) (fun v hv => by dsimp only; rw [hnh v hv]; omega),by simp⟩
 have hvarsL : L.vars = vars:=by rw [hL]; rfl
 have hCp : CpR L rw 0 ⟨0,List.replicate n 0,List.replicate n 0,List.replicate n (-1), []⟩ (List.replicate n 0) (List.replicate n false) 0 W3:=by
  refine ⟨hTI,fun x _ _ => hnth x,fun x hx => ?_, ?_,fun x hx => by omega,hCW⟩
  ·rw [hLn] at hx
   dsimp only
   rw [hnth x,show nth (List.replicate n false) x = false by simp [nth,hx]]; simp
  ·dsimp only
   unfold offH
   rw [List.filter_eq_nil_iff.2 fun v hv => ?_]; rfl
   rw [hvarsL] at hv
   have:=List.mem_range.1 hv
   rw [hnh v (by omega)]; simp
 have hR : RowsC L rw:=⟨fun v hv => by rw [hL]; rw [hLn] at hv; exact hrw v hv,fun v w h => by rw [hLn]; exact hlt v w h,hszr⟩
 have hbsL : L.bs = bs:=by rw [hL]; rfl
 have hbmL : L.bm = bm:=by rw [hL]; rfl
 have hbtL : L.bt = bt:=by rw [hL]; rfl
 have hW0L : L.W0 = W3:=by rw [hL]; rfl
 have HL:=Lib.hid (And.intro hS (And.intro hCp (And.intro hR (And.intro hLn (And.intro hvarsL (And.intro r0 (And.intro hLB (And.intro hW0L g03))))))))
 have HL2:=Lib.hid (And.intro hvars (And.intro hN (And.intro hbmW (show W.heap.size ≤ bt by omega))))
 clear hS hCp hR hLn hvarsL r0 hLB hW0L g03 hvars hN hbmW hbsW hs hm hmf hsu hfoot hrw hlt hszr hbm hne hll hL hfw r1 r2 r3 r4 r5 r6 hob hb03 hno hCW hnth hnh hTI hcell hfz hcs hW3 hsz hbt gA h02 oN oI oL oO a2 a3 b2 b3 c2 c3 d2 d3 x1 x2 x3 x4 x5 x6 HA HB HM
 rw [← hbsL, ← hbmL, ← hbtL]
 have HBM:=Lib.hid hbmL
 clear hbsL hbmL hbtL
 go_wp2_with fail
 go_loopw [6,21] (fun _ x wr => ∃ (k : Nat) (s : Ts) (nx : List Nat) (op : List Bool) (mg : Nat),k ≤ n∧x = .int .i64 (k : Int)∧Hid (CpR L rw k s nx op mg wr)) (fun _ x _ => n - (intOf x).toNat)
 case atStart => exact ⟨0,_,_,_,_,by omega,rfl,HL.out.2.1⟩
 case round =>
  obtain ⟨k,s,nx,op,mg,hk,rfl,hh⟩:=hrel
  have HH:=Lib.hid hh.out
  clear hh
  by_cases hlt : k < n
  ·have hkn : k < L.n:=by rw [HL.out.2.2.2.1]; exact hlt
   obtain ⟨i1,i2, -⟩:=HH.out.hm.rdI hkn
   have t2:=HH.out.hm.t.t2
   by_cases h0 : nth s.num k = 0
   ·rw [h0] at i1
    have hrun:=run_any L HL.out.1 (by rw [HL.out.2.2.2.2.1]; exact HL2.out.1) (by rw [HL.out.2.2.2.2.1,HL.out.2.2.2.1]; exact HL2.out.2.1) rw HL.out.2.2.1 s nx op mg k wr HH.out.ok HH.out.nx0 HH.out.hop HH.out.hmg HH.out.hm hkn h0
    have HR:=Lib.hid hrun
    clear hrun h0
    go_wp2_with fail
    refine HR.out.mono ?_
    rintro e W9 ⟨rfl,s',nx',op',mg',hRI,hm'⟩
    have hcp : CpR L rw (k + 1) s' nx' op' mg' W9:=⟨hRI.ok,hRI.nx0,hRI.op,hRI.mg,fun x hx => by
     by_cases e : x = k
     ·subst e; exact hRI.rt
     ·exact hRI.keep x (by omega) (HH.out.met x (by omega)),hm'⟩
    have HC9:=Lib.hid hcp
    clear hRI hm' hcp i1 i2 t2 HR
    go_wp2_with fail
    go_roundw
    case rel => exact ⟨k + 1,s',nx',op',mg',by omega,by go_num,HC9.out⟩
    case measure => simp [intOf]; omega
   ·have w1 : (((nth s.num k : Nat) : Int) == 0) = false:=by simpa using h0
    have HC9:=Lib.hid (show CpR L rw (k + 1) s nx op mg wr from ⟨HH.out.ok,HH.out.nx0,HH.out.hop,HH.out.hmg,fun x hx => by
     by_cases e : x = k
     ·subst e; exact h0
     ·exact HH.out.met x (by omega),HH.out.hm⟩)
    clear h0
    go_wp2_with fail
    go_roundw
    case rel => exact ⟨k + 1,s,nx,op,mg,by omega,by go_num,HC9.out⟩
    case measure => simp [intOf]; omega
  ·obtain rfl : k = n:=by omega
   go_wp2_with fail
   refine bodyPost_ret (v:=.tuple #[]) (results_none rfl _ _ _) rfl ?_
   have hTI:=HH.out.ok.1
   have hmet : ∀ v,v < L.n→nth s.num v ≠ 0:=fun v hv => HH.out.met v (by rw [HL.out.2.2.2.1] at hv; exact hv)
   refine ⟨rfl,s.hd,by rw [hTI.lenH,HL.out.2.2.2.1],fun v hv => hTI.fin hmet (by rw [HL.out.2.2.2.1]; exact hv), ?_,by rw [← HBM.out]; exact HH.out.hm.mf, ?_⟩
   ·have:=HH.out.hm.m
    rw [HH.out.hmg,HL.out.2.2.2.2.1,HBM.out] at this
    exact this
   ·have hb:=HH.out.hm.bel
    rw [HL.out.2.2.2.2.2.2.2.1] at hb
    have him:=HH.out.hm.imm
    have g03:=HL.out.2.2.2.2.2.2.2.2
    refine ⟨hb.os.trans g03.os,hb.tape.trans g03.tape,hb.output.trans g03.output,Nat.le_trans g03.size hb.size,fun q hq hne => ?_⟩
    have hqb : q ≠ bm:=fun e => hne (by rw [e])
    rw [him q (by rw [HL.out.2.2.2.2.2.2.1]; have:=HL2.out.2.2.2; omega) (HL.out.2.2.2.2.2.1 q hq hqb),HL.out.2.2.2.2.2.2.2.1]
    exact g03.block q hq (by simp)
end Go.Proofs.YtgblfjccccdidaaGreat
end
section
namespace Go.Clp
open Go.Dfl (nth nth_set nth_mem mem_nth nth_eq nth_ext nth_append nth_out take_snoc)
open Go.And (R Sy)
def cellI (s : Sy) (x f : Int) : Nat:=s.vars.toNat + x.toNat * s.fields.toNat + f.toNat
def edR (s : Sy) (lu : List (List Int)) (c : R) : List (Nat × Nat) :=
 if c.k = 2 then [(c.a.toNat,c.b.toNat)]
 else if c.k = 3 then (nth lu c.a.toNat).map fun x => (cellI s x c.f,c.b.toNat)
 else if c.k = 4 then (nth lu c.b.toNat).map fun x => (c.a.toNat,cellI s x c.f)
 else []
theorem edR_key {s : Sy} {lu : List (List Int)} {c d : R} (h : c.k = d.k∧c.a = d.a∧c.b = d.b∧c.f = d.f) : edR s lu c = edR s lu d:=by
 unfold edR; rw [h.1,h.2.1,h.2.2.1,h.2.2.2]
def edT (s : Sy) (lu : List (List Int)) (k : Nat) (e : Nat × Nat) : Prop:=∃ i,i < k∧e ∈ edR s lu (nth s.cons i)
def sameK (c d : R) : Prop:=c.k = d.k∧c.a = d.a∧c.b = d.b∧c.f = d.f
theorem edT_seen {s : Sy} {lu : List (List Int)} {k : Nat} (h : ∃ i,i < k∧sameK (nth s.cons i) (nth s.cons k)) (e : Nat × Nat) : edT s lu (k + 1) e ↔ edT s lu k e:=by
 constructor
 ·rintro ⟨i,hi,h2⟩
  by_cases e2 : i = k
  ·subst e2
   obtain ⟨j,hj,h3⟩:=h
   exact ⟨j,hj,by rw [edR_key h3]; exact h2⟩
  ·exact ⟨i,by omega,h2⟩
 ·rintro ⟨i,hi,h2⟩; exact ⟨i,by omega,h2⟩
theorem edT_new {s : Sy} {lu : List (List Int)} {k : Nat} (e : Nat × Nat) : edT s lu (k + 1) e ↔ edT s lu k e ∨ e ∈ edR s lu (nth s.cons k):=by
 constructor
 ·rintro ⟨i,hi,h2⟩
  by_cases e2 : i = k
  ·subst e2; exact .inr h2
  ·exact .inl ⟨i,by omega,h2⟩
 ·rintro (⟨i,hi,h2⟩ | h2)
  ·exact ⟨i,by omega,h2⟩
  ·exact ⟨k,by omega,h2⟩
end Go.Clp
namespace Go.Dfl
theorem grownBy_far {w w' w2 : World} {row : Option Nat} {q : Nat} (h : w.grownBy w' row) (g : w'.grownBy w2 (some q)) (hq : w.heap.size ≤ q) : w.grownBy w2 row :=
 ⟨g.os.trans h.os,g.tape.trans h.tape,g.output.trans h.output,Nat.le_trans h.size g.size,fun i hi hr => (g.block i (Nat.lt_of_lt_of_le hi h.size) (fun e => by have:=Option.some.inj e; omega)).trans (h.block i hi hr)⟩
end Go.Dfl
namespace Go.Proofs.YtgblfjccccdidaaGreat
open Go.RowKit Go.Dfl Go.Gra Go.Clp Go.And Go.Spl Go.Maps
theorem laidOutC : laidOutB Tryz.prog = true:=by kernel_rfl
theorem keyLawC : Keyed Tryz.prog 89:=Keyed.of_law (deep_law_laid laidOutC (m:=2) (by omega) (of_decide_eq_true (by kernel_rfl)) (by kernel_rfl) (by rw [Tryz.underlying89]))
theorem zeroBoolC (w : World) : (zeroValue 4).run Tryz.prog w = .ok (.bool false) w:=by kernel_rfl
theorem ktypeC : Tryz.prog.keyType 89 = true:=by kernel_rfl
theorem cellsKC : Tryz.prog.cellsOf 89 = 4:=by kernel_rfl
theorem cellsIC : Tryz.prog.cellsOf 3 = 1:=by kernel_rfl
theorem keyWfC (k a b f : Int) (h1 : 0 ≤ k∧k ≤ 1000000) (h2 : 0 ≤ a∧a ≤ 1000000) (h3 : 0 ≤ b∧b ≤ 1000000) (h4 : 0 ≤ f∧f ≤ 1000000) : ∃ kl,keyOf Tryz.prog 89 (.agg #[.int .i64 k,.int .i64 a,.int .i64 b,.int .i64 f]) = some kl:=by
 have w : ∀ x : Int,0 ≤ x∧x ≤ 1000000→(Lit.int .i64 x).wf = true:=fun x hx => WalkArith.wf_i64 (by omega)
 have wi : ∀ (d : Nat) (x : Int),0 ≤ x∧x ≤ 1000000→Tryz.prog.keyLits (d + 1) 3 [.int .i64 x] = some [.int .i64 x]:=fun d x hx => by
  simp [Program.keyLits,Tryz.underlying3,w x hx]
 have hsz : ∃ d,Tryz.prog.types.size + 1 = d + 2:=⟨Tryz.prog.types.size - 1,by have : 0 < Tryz.prog.types.size:=of_decide_eq_true (by kernel_rfl); omega⟩
 obtain ⟨d,hd⟩:=hsz
 unfold keyOf
 rw [Tryz.underlying89,hd]
 simp only [ktypeC,Bool.true_and]
 have hf : (Value.agg #[.int .i64 k,.int .i64 a,.int .i64 b,.int .i64 f]).formed Tryz.prog 89 = true:=by simp [Value.formed,Tryz.underlying89,cellsKC]
 rw [if_pos hf]
 unfold Program.keyLits
 simp only [Tryz.underlying89]
 simp [cellsKC,cellsIC,wi,h1,h2,h3,h4,Value.cells]
def keyR (c : R) : Value:=.agg #[.int .i64 c.k,.int .i64 c.a,.int .i64 c.b,.int .i64 c.f]
theorem keyR_inj {c d : R} : keyR c = keyR d ↔ sameK c d:=by
 unfold keyR sameK
 simp
structure FiS (W0 : World) (n mb : Nat) (ra : Option Addr) (rc : Nat) (k : Nat) (us : List Value) (D : List (Nat × Nat)) (l : List Value) (W : World) : Prop where
 rows : OwnN IIg W W0.heap.size 32 (.slice ra n rc) us (nextL D n)
 set : SetM Tryz.prog 89 4 W mb k l
 kp : W0.grownBy W (some mb)
 mlt : mb < W0.heap.size
structure FiP (s : Sy) (lu : List (List Int)) (k : Nat) (D : List (Nat × Nat)) (l : List Value) : Prop where
 keys : ∀ c,keyR c ∈ l ↔ ∃ i,i < k∧sameK (nth s.cons i) c
 mem : ∀ e,e ∈ D ↔ edT s lu k e
 len : D.length ≤ 12 * k
section
variable {W0 W W' w3 : World} {n mb k : Nat} {ra : Option Addr} {rc : Nat} {us : List Value} {D : List (Nat × Nat)} {l : List Value}
theorem FiS.grow (h : FiS W0 n mb ra rc k us D l W) (hg : W.grownBy W' none) : FiS W0 n mb ra rc k us D l W' :=
 ⟨h.rows.grown kIIg hg (by simp),h.set.kept hg (by simp),grownBy_trans h.kp (grownBy_widen hg),h.mlt⟩
theorem FiS.old (h : FiS W0 n mb ra rc k us D l W) {q : Nat} (hq : q < W0.heap.size) : ¬ Foot (.slice ra n rc) us q:=fun hf => by
 have:=(h.rows.foot kIIg q hf).1; omega
theorem FiS.put (h : FiS W0 n mb ra rc k us D l W) {l' : List Value} (hg : W.grownBy W' (some mb)) (hs : SetM Tryz.prog 89 4 W' mb (k + 1) l') : FiS W0 n mb ra rc (k + 1) us D l' W' :=
 ⟨h.rows.grown kIIg hg (fun q e hf => by obtain rfl:=Option.some.inj e; exact h.old h.mlt hf),hs,grownBy_trans h.kp hg,h.mlt⟩
theorem FiS.rd (h : FiS W0 n mb ra rc k us D l W) {a : Nat} (ha : a < n) : ∃ xa xc,nth us a = .slice xa (Go.Kah.row D a).length xc∧W.cell? ⟨blk ra,ofs ra + a,none⟩ = some (.slice xa (Go.Kah.row D a).length xc)∧OwnI W W0.heap.size 3 (.slice xa (Go.Kah.row D a).length xc) (castL (Go.Kah.row D a)) ∧
  (∀ Y,(Instr.indexAt 27 (.slice ra n rc) (.int .i64 (a : Int))).run Tryz.prog Y = .ok (.pointer (some ⟨blk ra,ofs ra + a,none⟩)) Y):=by
 have hl : a < (nextL D n).length:=by rw [nextL_len]; exact ha
 have hi:=h.rows.inn a hl
 rw [nextL_nth ha] at hi
 obtain ⟨xa,xc,he⟩:=hi.shape (n:=(Go.Kah.row D a).length) (by simp)
 obtain ⟨a4,c4,he4,hm4,hidx4,hcell4, -⟩:=h.rows.out.lst.out1 sRowsG
 have hvl : us.length = n:=by rw [h.rows.len]; exact nextL_len _ _
 rw [hvl] at he4 hm4 hidx4 hcell4
 simp only [Value.slice.injEq] at he4
 obtain ⟨rfl, -,rfl⟩:=he4
 have hcl:=hcell4 a ha
 rw [he] at hcl hi
 refine ⟨xa,xc,he,hcl,hi,fun Y => ?_⟩
 have:=hidx4 .i64 (a : Int) (by omega) (by omega) Y
 rw [Int.toNat_natCast] at this
 exact this
theorem FiS.app (h : FiS W0 n mb ra rc k us D l W) {a b : Nat} (ha : a < n) {o : Obj} {v' : Value} (hown : OwnI w3 W0.heap.size 3 v' (castL (Go.Kah.row D a) ++ [(b : Int)])) (hgr : (W.alloc o).grownBy w3 (nth us a).ownBlock) (hat : v'.ownBlock = (nth us a).ownBlock ∨ v'.ownBlock = some (W.alloc o).heap.size) :
  w3.cell? ⟨blk ra,ofs ra + a,none⟩ = some (nth us a)∧w3.frozen? ⟨blk ra,ofs ra + a,none⟩ = false∧(∀ q,q < W.heap.size→¬ Foot (.slice ra n rc) us q→w3.heap[q]? = W.heap[q]?)∧FiS W0 n mb ra rc k (us.set a v') (D ++ [(a,b)]) l (w3.setCell ⟨blk ra,ofs ra + a,none⟩ v') ∧
   (∀ q,q < W.heap.size→¬ Foot (.slice ra n rc) us q→(w3.setCell ⟨blk ra,ofs ra + a,none⟩ v').heap[q]? = W.heap[q]?∧¬ Foot (.slice ra n rc) (us.set a v') q):=by
 have hl : a < (nextL D n).length:=by rw [nextL_len]; exact ha
 obtain ⟨xa,xc,he,hcl, -, -⟩:=h.rd ha
 rw [← he] at hcl
 have hr : nth (nextL D n) a = castL (Go.Kah.row D a):=nextL_nth ha
 obtain ⟨a1,a2,a3, -⟩:=h.rows.app hl hown hgr hat hcl
 obtain ⟨b1,b2, -⟩:=h.rows.at' hl
 have hq0 : ∀ q,(nth us a).ownBlock = some q→W0.heap.size ≤ q:=fun q e => (h.rows.foot kIIg q (.inr ⟨a,by rw [h.rows.len]; exact hl,e⟩)).1
 have gA:=grownBy_alloc W o
 have gS:=grownBy_setCell w3 ⟨blk ra,ofs ra + a,none⟩ v'
 have kp3 : W0.grownBy w3 (some mb):=by
  have k1:=grownBy_trans h.kp (grownBy_widen gA)
  cases e : (nth us a).ownBlock with
  | none => rw [e] at hgr; exact grownBy_trans k1 (grownBy_widen hgr)
  | some q => rw [e] at hgr; exact grownBy_far k1 hgr (hq0 q e)
 have hk3 : ∀ q,q < W.heap.size→¬ Foot (.slice ra n rc) us q→w3.heap[q]? = W.heap[q]?:=fun q hq hf => by
  rw [hgr.block q (by simp; omega) (fun e => hf (.inr ⟨a,by rw [h.rows.len]; exact hl,e.symm⟩)),gA.block q hq (by simp)]
 refine ⟨a1,a2,hk3,⟨?_, ?_,grownBy_far kp3 gS b2,h.mlt⟩,fun q hq hf => ⟨?_, ?_⟩⟩
 ·rw [nextL_add ha,hr]; exact a3
 ·refine ((h.set.kept gA (by simp)).kept hgr (fun e => ?_)).kept gS (fun e => ?_)
  ·have:=hq0 mb e.symm; have:=h.mlt; omega
  ·have:=Option.some.inj e; have:=h.mlt; dsimp only at *; omega
 ·rw [gS.block q (Nat.lt_of_lt_of_le hq (Nat.le_trans gA.size hgr.size)) (fun e => hf (.inl (by rw [b1,e]))),hk3 q hq hf]
 ·intro hf2
  rcases hf2 with hf2 | ⟨i,hi,hf2⟩
  ·exact hf (.inl hf2)
  ·rw [List.length_set] at hi
   rw [nth_set] at hf2
   split at hf2
   ·rcases hat with e | e
    ·exact hf (.inr ⟨a,by rw [h.rows.len]; exact hl,by rw [← e]; exact hf2⟩)
    ·rw [e] at hf2; have:=Option.some.inj hf2; simp at this; omega
   ·exact hf (.inr ⟨i,hi,hf2⟩)
end
def FinalR (s : Sy) (lu : List (List Int)) (n : Nat) (W : World) (e : Ending) (W' : World) : Prop :=
 ∃ ra rc us D,e = .returned (.slice ra n rc)∧OwnN IIg W' W.heap.size 32 (.slice ra n rc) us (nextL D n)∧(∀ e,e ∈ D ↔ edT s lu s.cons.length e)∧D.length ≤ 2000∧Below W.heap.size W W'
set_option maxHeartbeats 6400000 in
set_option maxRecDepth 100000 in
theorem final_any (s : Sy) (cv u v : Value) (us0 vs0 : List Value) (lu lv : List (List Int)) (W : World) (hc : ConsIn W cv s.cons) (hs : Sm s) (hv : Vld s) (hu : Grid (Value.int .i64) W u us0 lu) (hvv : Grid (Value.int .i64) W v vs0 lv)
  (hul : lu.length = s.vars.toNat) (hvl : lv.length = s.sites.toNat * s.fields.toNat) (hui : ∀ i,i < lu.length→∀ x ∈ nth lu i,0 ≤ x∧x < s.sites) (hus : ∀ i,i < lu.length→(nth lu i).length ≤ 12) :
  Calls Tryz.prog 34 #[SysV s cv,.agg #[u,v]] W (FinalR s lu (s.vars.toNat + s.sites.toNat * s.fields.toNat) W):=by
 obtain ⟨ca,cc,rfl,hlen,hci,hcc⟩:=hc.out
 obtain ⟨ua,uc,rfl,um,ui,ucell⟩:=grid_rdC hu
 obtain ⟨va,vc,rfl,vm,vi,vcell⟩:=grid_rdC hvv
 have e0:=hs.vars
 have e1:=hs.sites
 have e2:=hs.fields
 have e3:=hs.cons
 have v0:=hv.vars
 have v1:=hv.sites
 have v2:=hv.fields
 have hmul : s.sites.toNat * s.fields.toNat ≤ 60:=by
  have : s.sites.toNat * s.fields.toNat ≤ 12 * 5:=Nat.mul_le_mul (by omega) (by omega)
  omega
 obtain ⟨M,hM⟩ : ∃ M,M = s.sites.toNat * s.fields.toNat:=⟨_,rfl⟩
 obtain ⟨n,hn⟩ : ∃ n,n = s.vars.toNat + M:=⟨_,rfl⟩
 rw [← hM] at hvl hmul ⊢
 rw [← hn]
 have hwn : IntKind.i64.wrap (s.vars + (lv.length : Int)) = (n : Int):=by rw [IntWalk.i64_in _ (by omega)]; omega
 have hn100 : n ≤ 100:=by omega
 have HA:=Lib.hid (And.intro hcc (And.intro hv (And.intro hu (And.intro ucell (And.intro hul (And.intro hui (And.intro hus (And.intro hM (And.intro hn hc)))))))))
 clear hc hcc hs hv hu hvv ucell vcell hul hvl hui hus hM hn vi vm
 unfold SysV
 have hmm:=@run_makeMap Tryz.prog
 go_enter Tryz.func34,Tryz.ntmps34
 go_wp2_with (at_make; refine wp_make (f:=fun x : Value => x) (.slice none 0 0) sInt2 rfl _ rfl _ _ rfl .i64 .i64 _ _ n rfl rfl rfl rfl (by omega) (by unfold maxLen; omega) ?_)
 intro la lc W4 o4 q4
 obtain ⟨WM,hWM⟩ : ∃ WM,WM = ((W.alloc (.cells #[.int .i64 s.vars,.int .i64 s.sites,.int .i64 s.fields,.slice ca s.cons.length cc] 24)).alloc (.cells #[.slice ua lu.length uc,.slice va lv.length vc] 34)).alloc (.map #[] 0):=⟨_,rfl⟩
 have hbx : BoxS WM W.heap.size s (.slice ca s.cons.length cc):=by
  rw [hWM]
  exact ((BoxS.new W s (.slice ca s.cons.length cc) 24).grown (grownBy_alloc _ _) (by simp)).grown (grownBy_alloc _ _) (by simp)
 have hpx : WM.cell? ⟨W.heap.size + 1,0,none⟩ = some (.slice ua lu.length uc):=by
  rw [hWM]
  have:=(cells_new (W:=W.alloc (.cells #[.int .i64 s.vars,.int .i64 s.sites,.int .i64 s.fields,.slice ca s.cons.length cc] 24)) (cs:=[.slice ua lu.length uc,.slice va lv.length vc]) (t:=34) (B:=W.heap.size + 1) (by simp)) 0 _ rfl
  exact (grownBy_alloc _ _).cell this (by simp)
 have hset : SetM Tryz.prog 89 4 WM (W.heap.size + 2) 0 []:=by
  rw [hWM]; exact SetM.made _ _ _ _ (by simp)
 have hbW : Below W.heap.size W WM:=by
  rw [hWM]; exact (((Below.refl _ _).alloc (Nat.le_refl _) _).alloc (by simp) _).alloc (by simp; omega) _
 have hsz : WM.heap.size = W.heap.size + 3:=by rw [hWM]; simp
 rw [← hWM] at q4
 have o4 : Go.Dfl.Own (fun x : Value => x) W4 WM.heap.size 32 (.slice la n lc) (List.replicate n (.slice none 0 0)):=by rw [hsz]; exact o4
 have q4 : Below WM.heap.size WM W4:=by rw [hsz]; exact q4
 clear hWM
 obtain ⟨bs,hbs⟩ : ∃ bs,bs = W.heap.size:=⟨_,rfl⟩
 obtain ⟨bp,hbp⟩ : ∃ bp,bp = W.heap.size + 1:=⟨_,rfl⟩
 obtain ⟨mb,hmb⟩ : ∃ mb,mb = W.heap.size + 2:=⟨_,rfl⟩
 have ht1 : W.heap.size + 1 + 1 = W.heap.size + 2:=by omega
 try simp only [World.size_alloc]
 rw [← hbs] at hbx
 rw [← hbp] at hpx
 rw [← hmb] at hset
 try rw [ht1]
 rw [← hmb, ← hbp, ← hbs]
 have hfi : FiS WM n mb la lc 0 (List.replicate n (.slice none 0 0)) [] [] W4∧FiP s lu 0 [] [] :=
  ⟨⟨by rw [nextL_nil]; exact OwnN.made o4 (Go.Dfl.Own.nil _ _ _ _),hset.kept (grownBy_below q4) (by simp),grownBy_widen (grownBy_below q4),by omega⟩,⟨fun c => by simp,fun e => by simp [edT],by simp⟩⟩
 have HF:=Lib.hid (And.intro hfi (And.intro hbx (And.intro hpx (And.intro hbW (And.intro hsz (And.intro hbs (And.intro hbp hmb)))))))
 obtain ⟨d0,d1,d2,d3⟩:=(hbx.grown (grownBy_below q4) (by simp))
 have hme : mb < WM.heap.size∧bs < mb∧bp < mb∧bs < bp:=by omega
 have HME:=Lib.hid hme
 clear hbx hpx hset hbW hsz hbs hbp hmb ht1 hfi o4 q4 hme
 go_wp2_with fail
 clear d0 d1 d2 d3
 go_loopw [26] (fun x wr => ∃ (k : Nat) (us : List Value) (D : List (Nat × Nat)) (l : List Value),k ≤ s.cons.length∧x = .int .i64 (k : Int)∧Hid (FiS WM n mb la lc k us D l wr∧FiP s lu k D l)) (fun x _ => s.cons.length - (intOf x).toNat)
 case atStart => exact ⟨0,_,_,_,by omega,rfl,HF.out.1⟩
 case round =>
  obtain ⟨k,us,D,l,hk,rfl,hh⟩:=hrel
  have HH:=Lib.hid hh.out
  clear hh
  have kpo : ∀ {b j : Nat} {y : Value},b ≠ mb→WM.cell? ⟨b,j,none⟩ = some y→wr.cell? ⟨b,j,none⟩ = some y:=fun {b j y} hbm hy => HH.out.1.kp.cell hy (fun e => hbm (Option.some.inj e))
  by_cases hlt : k < s.cons.length
  ·obtain ⟨sa,sn,sc,c0,c1,c2,c3,c4, -,hbl⟩:=HA.out.1 k hlt
   have hbW:=HF.out.2.2.2.1
   have hcm : blk ca ≠ mb:=by have:=HF.out.2.2.2.2.2.2.2; omega
   have g0 : ∀ {j : Nat} {y : Value},W.cell? ⟨blk ca,j,none⟩ = some y→wr.cell? ⟨blk ca,j,none⟩ = some y:=fun {j y} hy => kpo hcm (by rw [hbW.cell (p:=⟨blk ca,j,none⟩) hbl]; exact hy)
   have c0:=g0 c0
   have c1:=g0 c1
   have c2:=g0 c2
   have c3:=g0 c3
   have c4:=g0 c4
   obtain ⟨c,hcd⟩ : ∃ c,c = nth s.cons k:=⟨_,rfl⟩
   have hvc:=HA.out.2.1.cons _ (nth_mem _ _ hlt)
   rw [← hcd] at c0 c1 c2 c3 hvc
   have hnew:=BoxR.new wr c.k c.a c.b c.f (.slice sa sn sc) 48
   have hB : WM.heap.size ≤ wr.heap.size:=HH.out.1.kp.size
   have hci0:=hci (k : Int) (by omega) (by omega)
   rw [Int.toNat_natCast] at hci0
   have HCC:=Lib.hid (And.intro hcd (And.intro hvc hB))
   clear hbW hcm g0 hbl hcd hvc
   go_upto_region 6 with fail
   have gA:=grownBy_alloc wr (.cells #[.int .i64 c.k,.int .i64 c.a,.int .i64 c.b,.int .i64 c.f,.slice sa sn sc] 48)
   refine wp_gen (fun Z => BoxR Z wr.heap.size c.k c.a c.b c.f (.slice sa sn sc)∧wr.grownBy Z none) ⟨hnew,gA⟩ ?_
   intro Z1 hZ1
   obtain ⟨bc,hbc⟩ : ∃ bc,bc = wr.heap.size:=⟨_,rfl⟩
   rw [← hbc] at hZ1 ⊢
   have HZ1:=Lib.hid (And.intro hZ1 hbc)
   clear hnew gA hbc c0 c1 c2 c3 c4 hci0
   obtain ⟨z0,z1,z2,z3,z4, -⟩:=hZ1.1
   clear hZ1
   go_upto_region 7 with fail
   have hkn:=cells_new (W:=Z1) (cs:=[.int .i64 c.k,.int .i64 c.a,.int .i64 c.b,.int .i64 c.f]) (t:=89) rfl
   have gK:=grownBy_alloc Z1 (.cells #[.int .i64 c.k,.int .i64 c.a,.int .i64 c.b,.int .i64 c.f] 89)
   refine wp_gen (fun Z => BoxR Z bc c.k c.a c.b c.f (.slice sa sn sc)∧wr.grownBy Z none∧Z.cell? ⟨Z1.heap.size,0,none⟩ = some (.int .i64 c.k)∧Z.cell? ⟨Z1.heap.size,1,none⟩ = some (.int .i64 c.a)∧Z.cell? ⟨Z1.heap.size,2,none⟩ = some (.int .i64 c.b)∧Z.cell? ⟨Z1.heap.size,3,none⟩ = some (.int .i64 c.f)) ⟨HZ1.out.1.1.grown gK (by simp),grownBy_trans HZ1.out.1.2 gK,hkn 0 _ rfl,hkn 1 _ rfl,hkn 2 _ rfl,hkn 3 _ rfl⟩ ?_
   intro Z hZ
   obtain ⟨bk,hbk⟩ : ∃ bk,bk = Z1.heap.size:=⟨_,rfl⟩
   rw [← hbk] at hZ ⊢
   obtain ⟨hZb,hZg,k0,k1,k2,k3⟩:=hZ
   have HZ:=Lib.hid (And.intro hZb hZg)
   clear hkn gK hbk z0 z1 z2 z3 z4
   have hkd:=HCC.out.2.1.kind
   have ha9:=HCC.out.2.1.a
   have hb9:=HCC.out.2.1.b
   have hf9:=HCC.out.2.1.f'
   have hf8 : c.f ≤ 5:=by
    by_cases h3 : c.k = 3 ∨ c.k = 4
    ·have:=HCC.out.2.1.f h3; omega
    ·rw [HCC.out.2.1.f0 (by omega) (by omega)]; omega
   have ha8 : c.a ≤ 40:=by have:=ha9.2; split at this <;> omega
   obtain ⟨kl,hkl⟩:=keyWfC c.k c.a c.b c.f (by omega) (by omega) (by omega) (by omega)
   have hset:=HH.out.1.set.kept hZg (by simp)
   obtain ⟨x,hlook,hx⟩:=hset.look keyLawC Tryz.underlying87 Tryz.underlying4 (zeroBoolC _) hkl
   have HX:=Lib.hid (And.intro hset (And.intro (show x = true ↔ keyR c ∈ l from hx) hkl))
   have HBD:=Lib.hid (And.intro hkd (And.intro ha9 (And.intro hb9 (And.intro hf9 (And.intro hf8 ha8)))))
   clear hset hx hkl hZb hZg hkd ha9 hb9 hf9 hf8 ha8
   cases x
   ·have hkeys : ∀ d,keyR d ∈ keyR c :: l ↔ ∃ i,i < k + 1∧sameK (nth s.cons i) d:=fun d => by
     rw [List.mem_cons,HH.out.2.keys d]
     constructor
     ·rintro (h | ⟨i,hi,h2⟩)
      ·have:=keyR_inj.1 h
       exact ⟨k,by omega,by rw [← HCC.out.1]; exact ⟨this.1.symm,this.2.1.symm,this.2.2.1.symm,this.2.2.2.symm⟩⟩
      ·exact ⟨i,by omega,h2⟩
     ·rintro ⟨i,hi,h2⟩
      by_cases e : i = k
      ·subst e
       rw [← HCC.out.1] at h2
       exact .inl (keyR_inj.2 ⟨h2.1.symm,h2.2.1.symm,h2.2.2.1.symm,h2.2.2.2.symm⟩)
      ·exact .inr ⟨i,by omega,h2⟩
    have HKY:=Lib.hid hkeys
    clear hkeys
    go_upto_region 9 with (at_mapUpdate; refine wp_mapPut (t:=87) HX.out.1 rfl _ _ _ rfl keyLawC Tryz.underlying87 Tryz.underlying4 rfl rfl (by unfold maxLen; omega) _ kl rfl HX.out.2.2 ?_; intro W7 set7 g7)
    have hY0 : BoxR W7 bc c.k c.a c.b c.f (.slice sa sn sc)∧FiS WM n mb la lc (k + 1) us D (keyR c :: l) W7∧¬ Foot (.slice la n lc) us bc:=by
     have hbm : some bc ≠ some mb:=fun e => by have:=Option.some.inj e; have:=HZ1.out.2; have:=HCC.out.2.2; have:=HME.out.1; omega
     refine ⟨HZ.out.1.grown g7 hbm,(HH.out.1.grow HZ.out.2).put g7 set7,fun hf => ?_⟩
     have:=(HH.out.1.rows.foot kIIg bc hf).2
     have:=HZ1.out.2
     omega
    refine wp_gen (fun Y => BoxR Y bc c.k c.a c.b c.f (.slice sa sn sc)∧FiS WM n mb la lc (k + 1) us D (keyR c :: l) Y∧¬ Foot (.slice la n lc) us bc) hY0 ?_
    intro Y hY
    have HY:=Lib.hid hY
    clear hY0 set7 g7 hlook k0 k1 k2 k3
    obtain ⟨y0,y1,y2,y3,y4, -⟩:=hY.1
    clear hY
    have hbx:=HF.out.2.1
    have hpx:=HF.out.2.2.1
    have hcse : (c.k = 1 ∨ c.k = 5) ∨ c.k = 2 ∨ c.k = 3 ∨ c.k = 4:=by have:=HBD.out.1; omega
    have e0s : Y.cell? ⟨bs,0,none⟩ = some (.int .i64 s.vars):=HY.out.2.1.kp.cell hbx.1 (fun e => by have:=Option.some.inj e; dsimp only at this; have:=HME.out; omega)
    have e2s : Y.cell? ⟨bs,2,none⟩ = some (.int .i64 s.fields):=HY.out.2.1.kp.cell hbx.2.2.1 (fun e => by have:=Option.some.inj e; dsimp only at this; have:=HME.out; omega)
    have p0s : Y.cell? ⟨bp,0,none⟩ = some (.slice ua lu.length uc):=HY.out.2.1.kp.cell hpx (fun e => by have:=Option.some.inj e; dsimp only at this; have:=HME.out; omega)
    have HBC:=Lib.hid (show bc < Y.drew.heap.size∧bs < Y.drew.heap.size from ⟨HY.out.1.lt,World.block_lt_of_cell? Y _ e0s⟩)
    have HNF:=Lib.hid (show ¬ Foot (.slice la n lc) us bc∧¬ Foot (.slice la n lc) us bs from ⟨HY.out.2.2,HY.out.2.1.old (by have:=HME.out; omega)⟩)
    clear hbx hpx
    rcases hcse with h15 | h2 | h3 | h4
    ·have hq2 : (c.k == 2) = false:=by simp; omega
     have hq3 : (c.k == 3) = false:=by simp; omega
     have hq4 : (c.k == 4) = false:=by simp; omega
     have hpl : FiP s lu (k + 1) D (keyR c :: l):=⟨HKY.out,fun e => by
      rw [edT_new, ← HCC.out.1,HH.out.2.mem e]
      have : edR s lu c = []:=by unfold edR; rw [if_neg (by omega),if_neg (by omega),if_neg (by omega)]
      rw [this]; simp,by have:=HH.out.2.len; omega⟩
     have HPL:=Lib.hid hpl
     clear h15 hpl e0s e2s p0s
     go_wp2_with fail
     go_roundw
     case rel => exact ⟨k + 1,us,D,keyR c :: l,by omega,by go_num,HY.out.2.1,HPL.out⟩
     case measure => simp [intOf]; omega
    ·obtain ⟨an,han⟩ : ∃ an : Nat,c.a = (an : Int):=⟨c.a.toNat,by have:=HBD.out.2.1.1; omega⟩
     obtain ⟨bn,hbn⟩ : ∃ bn : Nat,c.b = (bn : Int):=⟨c.b.toNat,by have:=HBD.out.2.2.1.1; omega⟩
     have hanl : an < n:=by have h1:=HBD.out.2.1.2; rw [if_neg (by omega)] at h1; have:=HA.out.2.2.2.2.2.2.2.2.1; omega
     have hpl : FiP s lu (k + 1) (D ++ [(an,bn)]) (keyR c :: l):=⟨HKY.out,fun e => by
      rw [edT_new, ← HCC.out.1,List.mem_append,HH.out.2.mem e]
      have : edR s lu c = [(an,bn)]:=by unfold edR; rw [if_pos h2,han,hbn]; rfl
      rw [this],by have:=HH.out.2.len; simp; omega⟩
     have HPL:=Lib.hid hpl
     have hq2 : (c.k == 2) = true:=by simpa using h2
     rw [han] at y1
     rw [hbn] at y2
     clear hpl p0s h2
     go_upto_region 11 with fail
     have hd:=HY.out.2.1.grow (grownBy_drew0 Y)
     obtain ⟨xa,xc,hxe,hxc,hxo,hxi⟩:=hd.rd hanl
     have hrl : (Go.Kah.row D an).length ≤ 2000:=by
      have h1 : (Go.Kah.row D an).length ≤ (D).length:=by unfold Go.Kah.row; rw [List.length_map]; exact List.length_filter_le _ _
      have h2:=HH.out.2.len
      omega
     have hBY : WM.heap.size ≤ (Y).drew.heap.size:=hd.kp.size
     have HDD:=Lib.hid (And.intro hd (And.intro hxe (And.intro hxo hBY)))
     have hS0 : (Y).drew.heap[bc]? = (Y).heap[bc]?∧(Y).drew.heap[bs]? = (Y).heap[bs]?∧(Y).drew.cell? ⟨blk la,ofs la + an,none⟩ = some (.slice xa (Go.Kah.row D an).length xc):=⟨rfl,rfl,hxc⟩
     clear hd hxe hxo hBY
     generalize hrn : (Go.Kah.row D an).length = rn at *
     refine wp_region_mix [0,1,2,3,4,5,6,7,8,9] [10,11,12,13] (fun w' => w'.heap[bc]? = (Y).heap[bc]?∧w'.heap[bs]? = (Y).heap[bs]?∧w'.cell? ⟨blk la,ofs la + an,none⟩ = some (.slice xa rn xc)) (by kernel_rfl) (by kernel_rfl) (by kernel_rfl) hS0 ?_
     repeat (
      refine wpHeads_cons (v:=?_) rfl (Or.inl ⟨by rfl, ?_⟩) ?_
      rotate_left
      ·(intro W hW
        have x0:=(World.cell?_of_block (a:=⟨bc,0,none⟩) hW.1).trans y0
        have x1:=(World.cell?_of_block (a:=⟨bc,1,none⟩) hW.1).trans y1
        have x2:=(World.cell?_of_block (a:=⟨bc,2,none⟩) hW.1).trans y2
        have x3:=(World.cell?_of_block (a:=⟨bc,3,none⟩) hW.1).trans y3
        have u0:=(World.cell?_of_block (a:=⟨bs,0,none⟩) hW.2.1).trans e0s
        have u2:=(World.cell?_of_block (a:=⟨bs,2,none⟩) hW.2.1).trans e2s
        obtain ⟨-, -,q3⟩:=hW
        go_simp; try with_reducible rfl)
      simp only [Act.put,List.setIfInBounds_toArray,List.getElem_toArray,List.getElem_cons_zero,List.getElem_cons_succ,List.set_cons_succ,List.set_cons_zero])
     refine wpHeads_nil ?_
     refine wpTails_cons rfl ?_
     go_wp2_with fail
     have gB:=grownBy_alloc (Y).drew (.cells #[.int .i64 (bn : Int)] 3)
     have hSA : ((Y).drew.alloc (.cells #[.int .i64 (bn : Int)] 3)).heap[bc]? = (Y).heap[bc]?∧((Y).drew.alloc (.cells #[.int .i64 (bn : Int)] 3)).heap[bs]? = (Y).heap[bs]?∧((Y).drew.alloc (.cells #[.int .i64 (bn : Int)] 3)).cell? ⟨blk la,ofs la + an,none⟩ = some (.slice xa rn xc) :=
      ⟨gB.block bc HBC.out.1 (by simp),gB.block bs HBC.out.2 (by simp),gB.cell hxc (by simp)⟩
     refine tail_mk hSA ?_
     refine wpTails_cons rfl ?_
     refine wp_append1at (f:=Value.int .i64) sIntG rfl _ rfl _ _ rfl WM.heap.size (.slice xa rn xc) (castL (Go.Kah.row D an)) rfl (by have:=HDD.out.2.2.1; exact this.alloc _) (bn : Int) ⟨(Y).drew.heap.size,0,none⟩ rfl (cell_alloc1 _ _ _) rfl (by rw [castL_len]; omega) (by omega) (le_alloc _ HDD.out.2.2.2) ?_
     intro v' w3 hown hgr hat
     obtain ⟨s9,c9,rfl⟩:=hown.shape (n:=rn + 1) (by rw [List.length_append,castL_len,hrn]; rfl)
     rw [← HDD.out.2.1] at hgr hat
     obtain ⟨t1,t2,tk,hP,hk9⟩:=HDD.out.1.app (b:=bn) hanl hown hgr hat
     rw [HDD.out.2.1] at t1
     have hS3 : w3.heap[bc]? = (Y).heap[bc]?∧w3.heap[bs]? = (Y).heap[bs]?∧w3.cell? ⟨blk la,ofs la + an,none⟩ = some (.slice xa rn xc):=⟨tk bc HBC.out.1 HNF.out.1,tk bs HBC.out.2 HNF.out.2,t1⟩
     have HPP:=Lib.hid (And.intro hP (And.intro hk9 hS3))
     clear hP hk9 hS3 tk hown hgr hat gB hSA
     refine tail_mk HPP.out.2.2 ?_
     refine wpTails_cons rfl ?_
     go_wp2_with fail
     refine tail_mk HPP.out.2.2 ?_
     refine wpTails_one rfl ?_
     go_wp2_with fail
     refine thenQ_mk ?_
     go_wp2_with fail
     go_roundw
     case rel => exact ⟨k + 1,_,_,keyR c :: l,by omega,by go_num,HPP.out.1,HPL.out⟩
     case measure => simp [intOf]; omega
    ·
     obtain ⟨an,han⟩ : ∃ an : Nat,c.a = (an : Int):=⟨c.a.toNat,by have:=HBD.out.2.1.1; omega⟩
     obtain ⟨bn,hbn⟩ : ∃ bn : Nat,c.b = (bn : Int):=⟨c.b.toNat,by have:=HBD.out.2.2.1.1; omega⟩
     have hanl : an < lu.length:=by have h1:=HBD.out.2.1.2; rw [if_neg (by omega)] at h1; have h2:=HA.out.2.2.2.2.1; omega
     have hff:=(HCC.out.2.1.f (.inl h3)).2
     obtain ⟨E,hE⟩ : ∃ E : List (Nat × Nat),E = (nth lu an).map fun x => (cellI s x c.f,bn):=⟨_,rfl⟩
     have hEl : E.length = (nth lu an).length:=by rw [hE,List.length_map]
     have hpl : FiP s lu (k + 1) (D ++ E) (keyR c :: l):=⟨HKY.out,fun e => by
      rw [edT_new, ← HCC.out.1,List.mem_append,HH.out.2.mem e]
      have : edR s lu c = E:=by unfold edR; rw [if_neg (by omega),if_pos h3,hE,han,hbn]; rfl
      rw [this],by have h1:=HH.out.2.len; have h2:=HA.out.2.2.2.2.2.2.1 an hanl; rw [List.length_append,hEl]; omega⟩
     have hq2 : (c.k == 2) = false:=by simp; omega
     have hq3 : (c.k == 3) = true:=by simpa using h3
     have hBZ : ∀ Z,WM.grownBy Z (some mb)→Below W.heap.size W Z:=fun Z hZ => by
      have hbb:=HF.out.2.2.2.1
      have hmb2:=HF.out.2.2.2.2.2.2.2
      exact hbb.grown hZ hbb.size fun q e => by have:=Option.some.inj e; omega
     have hrow:=HA.out.2.2.1.2.2 an hanl
     obtain ⟨xa0,xc0,hxv,xm0,xi0,xd0,xb0⟩:=hrow.out1 sIntC
     obtain ⟨uc1,uc2⟩:=HA.out.2.2.2.1 an hanl
     rw [← (hBZ Y HY.out.2.1.kp).cell (p:=⟨blk ua,ofs ua + an,none⟩) uc2,hxv] at uc1
     have uia:=ui .i64 (an : Int) (by omega) (by omega)
     rw [Int.toNat_natCast] at uia
     obtain ⟨xl,hxl⟩ : ∃ xl,xl = (nth lu an).length:=⟨_,rfl⟩
     rw [← hxl] at uc1 xm0 xi0 xd0 xb0
     have hx12 : xl ≤ 12:=by rw [hxl]; exact HA.out.2.2.2.2.2.2.1 an hanl
     have HPL:=Lib.hid (And.intro hpl (And.intro hE (And.intro hEl (And.intro hxl (And.intro xd0 (And.intro xb0 (And.intro hBZ (And.intro hff (And.intro hanl (And.intro han hbn))))))))))
     rw [han] at y1
     have hE0 : E.take 0 = []:=rfl
     have hY2 : BoxR Y bc c.k c.a c.b c.f (.slice sa sn sc)∧FiS WM n mb la lc (k + 1) us (D ++ E.take 0) (keyR c :: l) Y∧¬ Foot (.slice la n lc) us bc:=by rw [hE0,List.append_nil]; exact HY.out
     have HY2:=Lib.hid hY2
     clear hpl hE hEl hxl xd0 xb0 hBZ hff hrow uc2 h3 hE0 hY2 hanl hxv
     go_wp2_with fail
     clear y0 y1 y2 y3 y4 e0s e2s p0s uc1 uia HBC HNF
     go_loopw [11,12,70] (fun _ _ x wr => ∃ (j : Nat) (us : List Value),j ≤ xl∧x = .int .i64 (j : Int)∧Hid (BoxR wr bc c.k c.a c.b c.f (.slice sa sn sc)∧FiS WM n mb la lc (k + 1) us (D ++ E.take j) (keyR c :: l) wr∧¬ Foot (.slice la n lc) us bc)) (fun _ _ x _ => xl - (intOf x).toNat)
     case atStart => exact ⟨0,us,by omega,rfl,HY2.out⟩
     case round =>
      obtain ⟨j,us,hj,rfl,hh⟩:=hrel
      have HJ:=Lib.hid hh.out
      obtain ⟨y0,y1,y2,y3,y4, -⟩:=hh.out.1
      clear hh
      by_cases hjt : j < xl
      ·have hbx:=HF.out.2.1
       have e0s : wr.cell? ⟨bs,0,none⟩ = some (.int .i64 s.vars):=HJ.out.2.1.kp.cell hbx.1 (fun e => by have:=Option.some.inj e; dsimp only at this; have:=HME.out; omega)
       have e2s : wr.cell? ⟨bs,2,none⟩ = some (.int .i64 s.fields):=HJ.out.2.1.kp.cell hbx.2.2.1 (fun e => by have:=Option.some.inj e; dsimp only at this; have:=HME.out; omega)
       have HBC:=Lib.hid (show bc < wr.drew.heap.size∧bs < wr.drew.heap.size from ⟨HJ.out.1.lt,World.block_lt_of_cell? wr _ e0s⟩)
       have HNF:=Lib.hid (show ¬ Foot (.slice la n lc) us bc∧¬ Foot (.slice la n lc) us bs from ⟨HJ.out.2.2,HJ.out.2.1.old (by have:=HME.out; omega)⟩)
       obtain ⟨-,hE,hEl,hxl,xd0,xb0,hBZ,hff,hanl,han,hbn⟩:=HPL.out
       have xd:=xd0 j hjt
       rw [← (hBZ wr HJ.out.2.1.kp).cell (p:=⟨blk xa0,ofs xa0 + j,none⟩) (xb0 j hjt)] at xd
       have xij:=xi0 .i64 (j : Int) (by omega) (by omega)
       rw [Int.toNat_natCast] at xij
       obtain ⟨x,hx⟩ : ∃ x,x = nth (nth lu an) j:=⟨_,rfl⟩
       rw [← hx] at xd
       have hxr:=HA.out.2.2.2.2.2.1 an hanl x (by rw [hx]; exact nth_mem _ _ (by omega))
       obtain ⟨xn,hxn⟩ : ∃ xn : Nat,x = (xn : Int):=⟨x.toNat,by omega⟩
       obtain ⟨Pn,hPn⟩ : ∃ Pn : Nat,Pn = xn * s.fields.toNat:=⟨_,rfl⟩
       have hPi : (xn : Int) * s.fields = (Pn : Int):=by rw [hPn]; push_cast; rw [show ((s.fields.toNat : Nat) : Int) = s.fields by omega]
       have hPle : Pn + s.fields.toNat ≤ M:=by
        rw [HA.out.2.2.2.2.2.2.2.1,hPn, ← Nat.succ_mul]
        exact Nat.mul_le_mul_right _ (by omega)
       obtain ⟨fn,hfn⟩ : ∃ fn : Nat,c.f = (fn : Int):=⟨c.f.toNat,by have:=HBD.out.2.2.2.1; omega⟩
       obtain ⟨q1,hq1⟩ : ∃ q1,q1 = s.vars.toNat + Pn:=⟨_,rfl⟩
       obtain ⟨cl,hcl⟩ : ∃ cl,cl = q1 + fn:=⟨_,rfl⟩
       have hcln : cl < n:=by have:=HA.out.2.2.2.2.2.2.2.2.1; omega
       have hcI : cellI s x c.f = cl:=by unfold cellI; rw [hxn,hfn,hcl,hq1,hPn]; rfl
       have hw1 : IntKind.i64.wrap ((xn : Int) * s.fields) = (Pn : Int):=by rw [hPi]; exact IntWalk.i64_in _ (by omega)
       have hw2 : IntKind.i64.wrap (s.vars + (Pn : Int)) = (q1 : Int):=by rw [IntWalk.i64_in _ (by omega)]; omega
       have hw3 : IntKind.i64.wrap ((q1 : Int) + (fn : Int)) = (cl : Int):=by rw [IntWalk.i64_in _ (by omega)]; omega
       have hEs : E.take (j + 1) = E.take j ++ [(cl,bn)]:=by
        rw [take_snoc _ _ (by omega)]
        congr 2
        rw [hE,nth_eq _ _ (by rw [List.length_map]; omega),List.getElem_map, ← nth_eq _ _ (by omega), ← hx,hcI]
       have hdl : (D ++ E.take j).length ≤ 12 * k + 12:=by have h1:=HH.out.2.len; rw [List.length_append,List.length_take]; omega
       have HDL:=Lib.hid (And.intro hdl hEs)
       rw [hxn] at xd
       rw [hfn] at y3
       rw [hbn] at y2
       clear hE hEl hxl xd0 xb0 hBZ hff hanl han hbn hbx hx hxr hxn hPn hPi hPle hfn hq1 hcl hcI hEs hdl y4
       go_upto_region 17 with fail
       clear hw1 hw2 hw3 xd xij
       have hd:=HJ.out.2.1.grow (grownBy_drew0 wr)
       obtain ⟨xa,xc,hxe,hxc,hxo,hxi⟩:=hd.rd hcln
       have hrl : (Go.Kah.row (D ++ E.take j) cl).length ≤ 2000:=by
        have h1 : (Go.Kah.row (D ++ E.take j) cl).length ≤ ((D ++ E.take j)).length:=by unfold Go.Kah.row; rw [List.length_map]; exact List.length_filter_le _ _
        have h2:=HDL.out.1
        omega
       have hBY : WM.heap.size ≤ (wr).drew.heap.size:=hd.kp.size
       have HDD:=Lib.hid (And.intro hd (And.intro hxe (And.intro hxo hBY)))
       have hS0 : (wr).drew.heap[bc]? = (wr).heap[bc]?∧(wr).drew.heap[bs]? = (wr).heap[bs]?∧(wr).drew.cell? ⟨blk la,ofs la + cl,none⟩ = some (.slice xa (Go.Kah.row (D ++ E.take j) cl).length xc):=⟨rfl,rfl,hxc⟩
       clear hd hxe hxo hBY
       generalize hrn : (Go.Kah.row (D ++ E.take j) cl).length = rn at *
       refine wp_region_mix [0,1,2,3,4,5,6,7] [8,9,10,11] (fun w' => w'.heap[bc]? = (wr).heap[bc]?∧w'.heap[bs]? = (wr).heap[bs]?∧w'.cell? ⟨blk la,ofs la + cl,none⟩ = some (.slice xa rn xc)) (by kernel_rfl) (by kernel_rfl) (by kernel_rfl) hS0 ?_
       repeat (
        refine wpHeads_cons (v:=?_) rfl (Or.inl ⟨by rfl, ?_⟩) ?_
        rotate_left
        ·(intro W hW
          have x0:=(World.cell?_of_block (a:=⟨bc,0,none⟩) hW.1).trans y0
          have x1:=(World.cell?_of_block (a:=⟨bc,1,none⟩) hW.1).trans y1
          have x2:=(World.cell?_of_block (a:=⟨bc,2,none⟩) hW.1).trans y2
          have x3:=(World.cell?_of_block (a:=⟨bc,3,none⟩) hW.1).trans y3
          have u0:=(World.cell?_of_block (a:=⟨bs,0,none⟩) hW.2.1).trans e0s
          have u2:=(World.cell?_of_block (a:=⟨bs,2,none⟩) hW.2.1).trans e2s
          obtain ⟨-, -,q3⟩:=hW
          go_simp; try with_reducible rfl)
        simp only [Act.put,List.setIfInBounds_toArray,List.getElem_toArray,List.getElem_cons_zero,List.getElem_cons_succ,List.set_cons_succ,List.set_cons_zero])
       refine wpHeads_nil ?_
       refine wpTails_cons rfl ?_
       go_wp2_with fail
       have gB:=grownBy_alloc (wr).drew (.cells #[.int .i64 (bn : Int)] 3)
       have hSA : ((wr).drew.alloc (.cells #[.int .i64 (bn : Int)] 3)).heap[bc]? = (wr).heap[bc]?∧((wr).drew.alloc (.cells #[.int .i64 (bn : Int)] 3)).heap[bs]? = (wr).heap[bs]?∧((wr).drew.alloc (.cells #[.int .i64 (bn : Int)] 3)).cell? ⟨blk la,ofs la + cl,none⟩ = some (.slice xa rn xc) :=
        ⟨gB.block bc HBC.out.1 (by simp),gB.block bs HBC.out.2 (by simp),gB.cell hxc (by simp)⟩
       refine tail_mk hSA ?_
       refine wpTails_cons rfl ?_
       refine wp_append1at (f:=Value.int .i64) sIntG rfl _ rfl _ _ rfl WM.heap.size (.slice xa rn xc) (castL (Go.Kah.row (D ++ E.take j) cl)) rfl (by have:=HDD.out.2.2.1; exact this.alloc _) (bn : Int) ⟨(wr).drew.heap.size,0,none⟩ rfl (cell_alloc1 _ _ _) rfl (by rw [castL_len]; omega) (by omega) (le_alloc _ HDD.out.2.2.2) ?_
       intro v' w3 hown hgr hat
       obtain ⟨s9,c9,rfl⟩:=hown.shape (n:=rn + 1) (by rw [List.length_append,castL_len,hrn]; rfl)
       rw [← HDD.out.2.1] at hgr hat
       obtain ⟨t1,t2,tk,hP,hk9⟩:=HDD.out.1.app (b:=bn) hcln hown hgr hat
       rw [HDD.out.2.1] at t1
       have hS3 : w3.heap[bc]? = (wr).heap[bc]?∧w3.heap[bs]? = (wr).heap[bs]?∧w3.cell? ⟨blk la,ofs la + cl,none⟩ = some (.slice xa rn xc):=⟨tk bc HBC.out.1 HNF.out.1,tk bs HBC.out.2 HNF.out.2,t1⟩
       have HPP:=Lib.hid (And.intro hP (And.intro hk9 hS3))
       clear hP hk9 hS3 tk hown hgr hat gB hSA
       refine tail_mk HPP.out.2.2 ?_
       refine wpTails_cons rfl ?_
       go_wp2_with fail
       refine tail_mk HPP.out.2.2 ?_
       refine wpTails_one rfl ?_
       go_wp2_with fail
       refine thenQ_mk ?_
       go_wp2_with fail
       go_roundw
       case rel =>
        refine ⟨j + 1,_,by omega,by go_num, ?_,by rw [HDL.out.2, ← List.append_assoc]; exact HPP.out.1,(HPP.out.2.1 bc HBC.out.1 HNF.out.1).2⟩
        have hbe:=(HPP.out.2.1 bc HBC.out.1 HNF.out.1).1
        have hbb:=HJ.out.1
        exact ⟨(World.cell?_of_block (a:=⟨bc,0,none⟩) hbe).trans hbb.c0,(World.cell?_of_block (a:=⟨bc,1,none⟩) hbe).trans hbb.c1,(World.cell?_of_block (a:=⟨bc,2,none⟩) hbe).trans hbb.c2,(World.cell?_of_block (a:=⟨bc,3,none⟩) hbe).trans hbb.c3,(World.cell?_of_block (a:=⟨bc,4,none⟩) hbe).trans hbb.c4,fun i => (World.frozen?_of_block (a:=⟨bc,i,none⟩) hbe).trans (hbb.fz i)⟩
       case measure => simp [intOf]; omega
      ·obtain rfl : j = xl:=by omega
       have hfull : E.take j = E:=List.take_of_length_le (by have h1:=HPL.out.2.2.1; have h2:=HPL.out.2.2.2.1; omega)
       have hfin:=HJ.out.2.1
       rw [hfull] at hfin
       have HFN:=Lib.hid hfin
       clear hfull hfin y0 y1 y2 y3 y4
       go_wp2_with fail
       go_roundw
       case rel => exact ⟨k + 1,us,D ++ E,keyR c :: l,by omega,by go_num,HFN.out,HPL.out.1⟩
       case measure => simp [intOf]; omega
    ·
     obtain ⟨an,han⟩ : ∃ an : Nat,c.a = (an : Int):=⟨c.a.toNat,by have:=HBD.out.2.1.1; omega⟩
     obtain ⟨bn,hbn⟩ : ∃ bn : Nat,c.b = (bn : Int):=⟨c.b.toNat,by have:=HBD.out.2.2.1.1; omega⟩
     have hann : an < n:=by have h1:=HBD.out.2.1.2; rw [if_neg (by omega)] at h1; have:=HA.out.2.2.2.2.2.2.2.2.1; omega
     have hanl : bn < lu.length:=by have h1:=HBD.out.2.2.1.2; have h2:=HA.out.2.2.2.2.1; omega
     have hff:=(HCC.out.2.1.f (.inr h4)).2
     obtain ⟨E,hE⟩ : ∃ E : List (Nat × Nat),E = (nth lu bn).map fun x => (an,cellI s x c.f):=⟨_,rfl⟩
     have hEl : E.length = (nth lu bn).length:=by rw [hE,List.length_map]
     have hpl : FiP s lu (k + 1) (D ++ E) (keyR c :: l):=⟨HKY.out,fun e => by
      rw [edT_new, ← HCC.out.1,List.mem_append,HH.out.2.mem e]
      have : edR s lu c = E:=by unfold edR; rw [if_neg (by omega),if_neg (by omega),if_pos h4,hE,han,hbn]; rfl
      rw [this],by have h1:=HH.out.2.len; have h2:=HA.out.2.2.2.2.2.2.1 bn hanl; rw [List.length_append,hEl]; omega⟩
     have hq2 : (c.k == 2) = false:=by simp; omega
     have hq3 : (c.k == 3) = false:=by simp; omega
     have hq4 : (c.k == 4) = true:=by simpa using h4
     have hBZ : ∀ Z,WM.grownBy Z (some mb)→Below W.heap.size W Z:=fun Z hZ => by
      have hbb:=HF.out.2.2.2.1
      have hmb2:=HF.out.2.2.2.2.2.2.2
      exact hbb.grown hZ hbb.size fun q e => by have:=Option.some.inj e; omega
     have hrow:=HA.out.2.2.1.2.2 bn hanl
     obtain ⟨xa0,xc0,hxv,xm0,xi0,xd0,xb0⟩:=hrow.out1 sIntC
     obtain ⟨uc1,uc2⟩:=HA.out.2.2.2.1 bn hanl
     rw [← (hBZ Y HY.out.2.1.kp).cell (p:=⟨blk ua,ofs ua + bn,none⟩) uc2,hxv] at uc1
     have uia:=ui .i64 (bn : Int) (by omega) (by omega)
     rw [Int.toNat_natCast] at uia
     obtain ⟨xl,hxl⟩ : ∃ xl,xl = (nth lu bn).length:=⟨_,rfl⟩
     rw [← hxl] at uc1 xm0 xi0 xd0 xb0
     have hx12 : xl ≤ 12:=by rw [hxl]; exact HA.out.2.2.2.2.2.2.1 bn hanl
     have HPL:=Lib.hid (And.intro hpl (And.intro hE (And.intro hEl (And.intro hxl (And.intro xd0 (And.intro xb0 (And.intro hBZ (And.intro hff (And.intro hanl (And.intro (And.intro han hann) hbn))))))))))
     rw [hbn] at y2
     have hE0 : E.take 0 = []:=rfl
     have hY2 : BoxR Y bc c.k c.a c.b c.f (.slice sa sn sc)∧FiS WM n mb la lc (k + 1) us (D ++ E.take 0) (keyR c :: l) Y∧¬ Foot (.slice la n lc) us bc:=by rw [hE0,List.append_nil]; exact HY.out
     have HY2:=Lib.hid hY2
     clear hpl hE hEl hxl xd0 xb0 hBZ hff hrow uc2 h4 hE0 hY2 hanl hxv
     go_wp2_with fail
     clear y0 y1 y2 y3 y4 e0s e2s p0s uc1 uia HBC HNF
     go_loopw [14,105] (fun _ x wr => ∃ (j : Nat) (us : List Value),j ≤ xl∧x = .int .i64 (j : Int)∧Hid (BoxR wr bc c.k c.a c.b c.f (.slice sa sn sc)∧FiS WM n mb la lc (k + 1) us (D ++ E.take j) (keyR c :: l) wr∧¬ Foot (.slice la n lc) us bc)) (fun _ x _ => xl - (intOf x).toNat)
     case atStart => exact ⟨0,us,by omega,rfl,HY2.out⟩
     case round =>
      obtain ⟨j,us,hj,rfl,hh⟩:=hrel
      have HJ:=Lib.hid hh.out
      obtain ⟨y0,y1,y2,y3,y4, -⟩:=hh.out.1
      clear hh
      by_cases hjt : j < xl
      ·have hbx:=HF.out.2.1
       have e0s : wr.cell? ⟨bs,0,none⟩ = some (.int .i64 s.vars):=HJ.out.2.1.kp.cell hbx.1 (fun e => by have:=Option.some.inj e; dsimp only at this; have:=HME.out; omega)
       have e2s : wr.cell? ⟨bs,2,none⟩ = some (.int .i64 s.fields):=HJ.out.2.1.kp.cell hbx.2.2.1 (fun e => by have:=Option.some.inj e; dsimp only at this; have:=HME.out; omega)
       have HBC:=Lib.hid (show bc < wr.drew.heap.size∧bs < wr.drew.heap.size from ⟨HJ.out.1.lt,World.block_lt_of_cell? wr _ e0s⟩)
       have HNF:=Lib.hid (show ¬ Foot (.slice la n lc) us bc∧¬ Foot (.slice la n lc) us bs from ⟨HJ.out.2.2,HJ.out.2.1.old (by have:=HME.out; omega)⟩)
       obtain ⟨-,hE,hEl,hxl,xd0,xb0,hBZ,hff,hanl,⟨han,hann⟩,hbn⟩:=HPL.out
       have xd:=xd0 j hjt
       rw [← (hBZ wr HJ.out.2.1.kp).cell (p:=⟨blk xa0,ofs xa0 + j,none⟩) (xb0 j hjt)] at xd
       have xij:=xi0 .i64 (j : Int) (by omega) (by omega)
       rw [Int.toNat_natCast] at xij
       obtain ⟨x,hx⟩ : ∃ x,x = nth (nth lu bn) j:=⟨_,rfl⟩
       rw [← hx] at xd
       have hxr:=HA.out.2.2.2.2.2.1 bn hanl x (by rw [hx]; exact nth_mem _ _ (by omega))
       obtain ⟨xn,hxn⟩ : ∃ xn : Nat,x = (xn : Int):=⟨x.toNat,by omega⟩
       obtain ⟨Pn,hPn⟩ : ∃ Pn : Nat,Pn = xn * s.fields.toNat:=⟨_,rfl⟩
       have hPi : (xn : Int) * s.fields = (Pn : Int):=by rw [hPn]; push_cast; rw [show ((s.fields.toNat : Nat) : Int) = s.fields by omega]
       have hPle : Pn + s.fields.toNat ≤ M:=by
        rw [HA.out.2.2.2.2.2.2.2.1,hPn, ← Nat.succ_mul]
        exact Nat.mul_le_mul_right _ (by omega)
       obtain ⟨fn,hfn⟩ : ∃ fn : Nat,c.f = (fn : Int):=⟨c.f.toNat,by have:=HBD.out.2.2.2.1; omega⟩
       obtain ⟨q1,hq1⟩ : ∃ q1,q1 = s.vars.toNat + Pn:=⟨_,rfl⟩
       obtain ⟨cl,hcl⟩ : ∃ cl,cl = q1 + fn:=⟨_,rfl⟩
       have hcln : cl < n:=by have:=HA.out.2.2.2.2.2.2.2.2.1; omega
       have hcI : cellI s x c.f = cl:=by unfold cellI; rw [hxn,hfn,hcl,hq1,hPn]; rfl
       have hw1 : IntKind.i64.wrap ((xn : Int) * s.fields) = (Pn : Int):=by rw [hPi]; exact IntWalk.i64_in _ (by omega)
       have hw2 : IntKind.i64.wrap (s.vars + (Pn : Int)) = (q1 : Int):=by rw [IntWalk.i64_in _ (by omega)]; omega
       have hw3 : IntKind.i64.wrap ((q1 : Int) + (fn : Int)) = (cl : Int):=by rw [IntWalk.i64_in _ (by omega)]; omega
       have hEs : E.take (j + 1) = E.take j ++ [(an,cl)]:=by
        rw [take_snoc _ _ (by omega)]
        congr 2
        rw [hE,nth_eq _ _ (by rw [List.length_map]; omega),List.getElem_map, ← nth_eq _ _ (by omega), ← hx,hcI]
       have hdl : (D ++ E.take j).length ≤ 12 * k + 12:=by have h1:=HH.out.2.len; rw [List.length_append,List.length_take]; omega
       have HDL:=Lib.hid (And.intro hdl hEs)
       rw [hxn] at xd
       rw [hfn] at y3
       rw [han] at y1
       clear hE hEl hxl xd0 xb0 hBZ hff hanl han hbn hbx hx hxr hxn hPn hPi hPle hfn hq1 hcl hcI hEs hdl y4
       go_upto_region 23 with fail
       clear xd xij
       have hd:=HJ.out.2.1.grow (grownBy_drew0 wr)
       obtain ⟨xa,xc,hxe,hxc,hxo,hxi⟩:=hd.rd hann
       have hrl : (Go.Kah.row (D ++ E.take j) an).length ≤ 2000:=by
        have h1 : (Go.Kah.row (D ++ E.take j) an).length ≤ ((D ++ E.take j)).length:=by unfold Go.Kah.row; rw [List.length_map]; exact List.length_filter_le _ _
        have h2:=HDL.out.1
        omega
       have hBY : WM.heap.size ≤ (wr).drew.heap.size:=hd.kp.size
       have HDD:=Lib.hid (And.intro hd (And.intro hxe (And.intro hxo hBY)))
       have hS0 : (wr).drew.heap[bc]? = (wr).heap[bc]?∧(wr).drew.heap[bs]? = (wr).heap[bs]?∧(wr).drew.cell? ⟨blk la,ofs la + an,none⟩ = some (.slice xa (Go.Kah.row (D ++ E.take j) an).length xc):=⟨rfl,rfl,hxc⟩
       clear hd hxe hxo hBY
       generalize hrn : (Go.Kah.row (D ++ E.take j) an).length = rn at *
       refine wp_region_mix [0,1,2,3,4,5,6,7,8,9,10,11,12,13,14,15,16,17] [18,19,20,21] (fun w' => w'.heap[bc]? = (wr).heap[bc]?∧w'.heap[bs]? = (wr).heap[bs]?∧w'.cell? ⟨blk la,ofs la + an,none⟩ = some (.slice xa rn xc)) (by kernel_rfl) (by kernel_rfl) (by kernel_rfl) hS0 ?_
       repeat (
        refine wpHeads_cons (v:=?_) rfl (Or.inl ⟨by rfl, ?_⟩) ?_
        rotate_left
        ·(intro W hW
          have x0:=(World.cell?_of_block (a:=⟨bc,0,none⟩) hW.1).trans y0
          have x1:=(World.cell?_of_block (a:=⟨bc,1,none⟩) hW.1).trans y1
          have x2:=(World.cell?_of_block (a:=⟨bc,2,none⟩) hW.1).trans y2
          have x3:=(World.cell?_of_block (a:=⟨bc,3,none⟩) hW.1).trans y3
          have u0:=(World.cell?_of_block (a:=⟨bs,0,none⟩) hW.2.1).trans e0s
          have u2:=(World.cell?_of_block (a:=⟨bs,2,none⟩) hW.2.1).trans e2s
          obtain ⟨-, -,q3⟩:=hW
          go_simp; try with_reducible rfl)
        simp only [Act.put,List.setIfInBounds_toArray,List.getElem_toArray,List.getElem_cons_zero,List.getElem_cons_succ,List.set_cons_succ,List.set_cons_zero])
       refine wpHeads_nil ?_
       refine wpTails_cons rfl ?_
       go_wp2_with fail
       have gB:=grownBy_alloc (wr).drew (.cells #[.int .i64 (cl : Int)] 3)
       have hSA : ((wr).drew.alloc (.cells #[.int .i64 (cl : Int)] 3)).heap[bc]? = (wr).heap[bc]?∧((wr).drew.alloc (.cells #[.int .i64 (cl : Int)] 3)).heap[bs]? = (wr).heap[bs]?∧((wr).drew.alloc (.cells #[.int .i64 (cl : Int)] 3)).cell? ⟨blk la,ofs la + an,none⟩ = some (.slice xa rn xc) :=
        ⟨gB.block bc HBC.out.1 (by simp),gB.block bs HBC.out.2 (by simp),gB.cell hxc (by simp)⟩
       refine tail_mk hSA ?_
       refine wpTails_cons rfl ?_
       refine wp_append1at (f:=Value.int .i64) sIntG rfl _ rfl _ _ rfl WM.heap.size (.slice xa rn xc) (castL (Go.Kah.row (D ++ E.take j) an)) rfl (by have:=HDD.out.2.2.1; exact this.alloc _) (cl : Int) ⟨(wr).drew.heap.size,0,none⟩ rfl (cell_alloc1 _ _ _) rfl (by rw [castL_len]; omega) (by omega) (le_alloc _ HDD.out.2.2.2) ?_
       intro v' w3 hown hgr hat
       obtain ⟨s9,c9,rfl⟩:=hown.shape (n:=rn + 1) (by rw [List.length_append,castL_len,hrn]; rfl)
       rw [← HDD.out.2.1] at hgr hat
       obtain ⟨t1,t2,tk,hP,hk9⟩:=HDD.out.1.app (b:=cl) hann hown hgr hat
       rw [HDD.out.2.1] at t1
       have hS3 : w3.heap[bc]? = (wr).heap[bc]?∧w3.heap[bs]? = (wr).heap[bs]?∧w3.cell? ⟨blk la,ofs la + an,none⟩ = some (.slice xa rn xc):=⟨tk bc HBC.out.1 HNF.out.1,tk bs HBC.out.2 HNF.out.2,t1⟩
       have HPP:=Lib.hid (And.intro hP (And.intro hk9 hS3))
       clear hP hk9 hS3 tk hown hgr hat gB hSA
       refine tail_mk HPP.out.2.2 ?_
       refine wpTails_cons rfl ?_
       go_wp2_with fail
       refine tail_mk HPP.out.2.2 ?_
       refine wpTails_one rfl ?_
       go_wp2_with fail
       refine thenQ_mk ?_
       go_wp2_with fail
       go_roundw
       case rel =>
        refine ⟨j + 1,_,by omega,by go_num, ?_,by rw [HDL.out.2, ← List.append_assoc]; exact HPP.out.1,(HPP.out.2.1 bc HBC.out.1 HNF.out.1).2⟩
        have hbe:=(HPP.out.2.1 bc HBC.out.1 HNF.out.1).1
        have hbb:=HJ.out.1
        exact ⟨(World.cell?_of_block (a:=⟨bc,0,none⟩) hbe).trans hbb.c0,(World.cell?_of_block (a:=⟨bc,1,none⟩) hbe).trans hbb.c1,(World.cell?_of_block (a:=⟨bc,2,none⟩) hbe).trans hbb.c2,(World.cell?_of_block (a:=⟨bc,3,none⟩) hbe).trans hbb.c3,(World.cell?_of_block (a:=⟨bc,4,none⟩) hbe).trans hbb.c4,fun i => (World.frozen?_of_block (a:=⟨bc,i,none⟩) hbe).trans (hbb.fz i)⟩
       case measure => simp [intOf]; omega
      ·obtain rfl : j = xl:=by omega
       have hfull : E.take j = E:=List.take_of_length_le (by have h1:=HPL.out.2.2.1; have h2:=HPL.out.2.2.2.1; omega)
       have hfin:=HJ.out.2.1
       rw [hfull] at hfin
       have HFN:=Lib.hid hfin
       clear hfull hfin y0 y1 y2 y3 y4
       go_wp2_with fail
       go_roundw
       case rel => exact ⟨k + 1,us,D ++ E,keyR c :: l,by omega,by go_num,HFN.out,HPL.out.1⟩
       case measure => simp [intOf]; omega
   ·have hseen : ∃ i,i < k∧sameK (nth s.cons i) (nth s.cons k):=by
     have:=HX.out.2.1.1 rfl
     rw [HH.out.2.keys c,HCC.out.1] at this
     exact this
    have hpl : FiP s lu (k + 1) D l:=⟨fun d => by
     rw [HH.out.2.keys d]
     constructor
     ·rintro ⟨i,hi,h2⟩; exact ⟨i,by omega,h2⟩
     ·rintro ⟨i,hi,h2⟩
      by_cases e : i = k
      ·subst e
       obtain ⟨j,hj,h3⟩:=hseen
       exact ⟨j,hj,h3.1.trans h2.1,h3.2.1.trans h2.2.1,h3.2.2.1.trans h2.2.2.1,h3.2.2.2.trans h2.2.2.2⟩
      ·exact ⟨i,by omega,h2⟩,fun e => by rw [HH.out.2.mem e,edT_seen hseen],by have:=HH.out.2.len; omega⟩
    have HPL:=Lib.hid hpl
    clear hseen hpl
    go_wp2_with fail
    go_roundw
    case rel => exact ⟨k + 1,us,D,l,by omega,by go_num,⟨(HH.out.1.grow HZ.out.2).rows,(HH.out.1.grow HZ.out.2).set.mono (by omega),(HH.out.1.grow HZ.out.2).kp,HH.out.1.mlt⟩,HPL.out⟩
    case measure => simp [intOf]; omega
  ·obtain rfl : k = s.cons.length:=by omega
   clear kpo
   go_wp2_with fail
   go_ret
   have hbb:=HF.out.2.2.2.1
   refine ⟨la,lc,us,D,rfl,⟨?_,HH.out.1.rows.len,fun i hi => ?_,HH.out.1.rows.sep,HH.out.1.rows.apart⟩,HH.out.2.mem,by have:=HH.out.2.len; omega, ?_⟩
   ·exact HH.out.1.rows.out.mono hbb.size
   ·exact (HH.out.1.rows.inn i hi).mono hbb.size
   ·have hmb2:=HF.out.2.2.2.2.2.2.2
    exact hbb.grown HH.out.1.kp hbb.size fun q e => by have:=Option.some.inj e; omega
end Go.Proofs.YtgblfjccccdidaaGreat
end
section
namespace Go.Clp
open Go.Dfl (nth nth_set nth_mem mem_nth nth_eq nth_ext nth_append nth_out take_snoc)
open Go.Tj (Rt Sc IsHd)
open Go.And (R Sy C Syst Pts Shut Holds pts_shut pts_bound Vld VldC Sm)
section
variable {s : Sy} {l : List Int}
theorem red_mem {d : R} : d ∈ (red s l).cons ↔ (∃ c ∈ s.cons,d = redC l c)∧redB d = true:=mem_redL
theorem redC_vld {c : R} (hv : Vld s) (hl : Lds (eI (copE s.cons)) s.vars.toNat l) (hc : c ∈ s.cons) : VldC (red s l) (redC l c):=by
 have h:=hv.cons c hc
 have hb:=hl.le (v:=c.b.toNat) (by have:=h.b; have:=hv.vars; omega)
 refine ⟨h.kind, ?_,⟨hb.1,by show nth l c.b.toNat < s.vars; have:=hv.vars; omega⟩,h.f,h.s,h.f0,h.s0,h.asc⟩
 have ha:=h.a
 show 0 ≤ (if c.k = 1 then c.a else nth l c.a.toNat)∧(if c.k = 1 then (if c.k = 1 then c.a else nth l c.a.toNat) < s.sites else (if c.k = 1 then c.a else nth l c.a.toNat) < s.vars)
 by_cases h1 : c.k = 1
 ·simp only [h1,if_true] at ha ⊢; exact ha
 ·simp only [h1,if_false] at ha ⊢
  have ha2:=hl.le (v:=c.a.toNat) (by have:=hv.vars; omega)
  exact ⟨ha2.1,by have:=hv.vars; omega⟩
theorem red_vld (hv : Vld s) (hl : Lds (eI (copE s.cons)) s.vars.toNat l) : Vld (red s l):=⟨hv.vars,hv.sites,hv.fields,fun d hd => by
 obtain ⟨⟨c,hc,rfl⟩, -⟩:=red_mem.1 hd
 exact redC_vld hv hl hc⟩
theorem red_sm (hs : Sm s) : Sm (red s l):=⟨hs.vars,hs.sites,hs.fields,Nat.le_trans (redL_len _ _) hs.cons⟩
def repN (s : Sy) (l : List Int) (i : Nat) : Nat:=if i < s.vars.toNat then (nth l i).toNat else i
theorem repN_var {i : Nat} (h : i < s.vars.toNat) : repN s l i = (nth l i).toNat:=if_pos h
theorem repN_cell {y f : Nat} : repN s l (s.S.cell y f) = s.S.cell y f:=if_neg (by unfold Syst.cell; show ¬ s.vars.toNat + _ + _ < _; omega)
theorem mem_S {c : C} : c ∈ s.S.cons ↔ ∃ r ∈ s.cons,r.C = c:=List.mem_map
theorem pts_copy {a b : Nat} (h : eI (copE s.cons) a b) {x : Nat} (hx : Pts s.S a x) : Pts s.S b x:=by
 obtain ⟨c,hc,h2,h3,h4⟩:=mem_copE.1 h
 have h5 : c.C ∈ s.S.cons:=mem_S.2 ⟨c,hc,rfl⟩
 have:=(pts_shut s.S _ h5).2.1 (by show c.k.toNat = 2; omega) x (by show Pts s.S c.a.toNat x; rw [h3]; exact hx)
 have h6 : Pts s.S c.b.toNat x:=this
 rw [h4] at h6; exact h6
theorem pts_rt {a b : Nat} (h : Rt (eI (copE s.cons)) a b) {x : Nat} (hx : Pts s.S a x) : Pts s.S b x:=by
 induction h with
 | refl => exact hx
 | step _ h2 ih => exact pts_copy h2 ih
theorem pts_rep (hl : Lds (eI (copE s.cons)) s.vars.toNat l) {i x : Nat} : Pts s.S i x ↔ Pts s.S (repN s l i) x:=by
 by_cases hi : i < s.vars.toNat
 ·rw [repN_var hi]
  have:=(hl.hd hi).1
  exact ⟨pts_rt this.1,pts_rt this.2⟩
 ·unfold repN; rw [if_neg hi]
theorem red_C (c : R) : (redC l c).C = ⟨c.k.toNat,(if c.k = 1 then c.a else nth l c.a.toNat).toNat,(nth l c.b.toNat).toNat,c.f.toNat,c.s.map Int.toNat⟩:=rfl
theorem pts_to (hv : Vld s) {i x : Nat} (h : Pts s.S i x) : Pts (red s l).S (repN s l i) x:=by
 refine Pts.least (p:=fun i x => Pts (red s l).S (repN s l i) x) (fun c hc => ?_) h
 obtain ⟨r,hr,rfl⟩:=mem_S.1 hc
 have hrv:=hv.cons r hr
 have hv0:=hv.vars
 have hb : r.C.b < s.vars.toNat:=by show r.b.toNat < _; have:=hrv.b; omega
 have hin : ¬ (r.k = 2∧(redC l r).a = (redC l r).b)→(redC l r).C ∈ (red s l).S.cons:=fun h => mem_S.2 ⟨redC l r,red_mem.2 ⟨⟨r,hr,rfl⟩,by
  unfold redB
  show (!(decide (r.k = 2) && decide ((redC l r).a = (redC l r).b))) = true
  by_cases h2 : r.k = 2
  ·have h3 : (redC l r).a ≠ (redC l r).b:=fun e => h ⟨h2,e⟩
   simp [h3]
  ·simp [h2]⟩,rfl⟩
 have hk : ∀ k : Nat,r.C.k = k→1 ≤ k→r.k = (k : Int):=fun k e h1 => by have : r.k.toNat = k:=e; omega
 have hbr : (redC l r).C.b = repN s l r.C.b:=by rw [repN_var hb]; rfl
 have har : r.k ≠ 1→(redC l r).C.a = repN s l r.C.a∧r.C.a < s.vars.toNat:=fun h1 => by
  have ha:=hrv.a
  rw [if_neg h1] at ha
  have : r.C.a < s.vars.toNat:=by show r.a.toNat < _; omega
  rw [repN_var this,red_C]
  simp only [h1,if_false]
  exact ⟨rfl,this⟩
 have hcell : ∀ y f,(red s l).S.cell y f = s.S.cell y f:=fun _ _ => rfl
 refine ⟨fun h1 => ?_,fun h2 z hz => ?_,fun h3 y hy z hz => ?_,fun h4 y hy z hz => ?_,fun h5 z hz hzs => ?_⟩
 ·have e1 : r.k = 1:=hk 1 h1 (by omega)
  have:=(pts_shut (red s l).S _ (hin (fun h => by have:=h.1; omega))).1 h1
  rw [hbr] at this
  have ha : (redC l r).C.a = r.C.a:=by rw [red_C]; show (if r.k = 1 then r.a else nth l r.a.toNat).toNat = r.a.toNat; rw [if_pos e1]
  rw [ha] at this
  exact this
 ·have e1:=hk 2 h2 (by omega)
  obtain ⟨ha, -⟩:=har (by omega)
  by_cases he : (redC l r).a = (redC l r).b
  ·have h6 : (redC l r).C.a = (redC l r).C.b:=by show (redC l r).a.toNat = (redC l r).b.toNat; rw [he]
   rw [ha,hbr] at h6
   show Pts (red s l).S (repN s l r.C.b) z
   rw [← h6]; exact hz
  ·have:=(pts_shut (red s l).S _ (hin (fun h => he h.2))).2.1 h2 z (by rw [ha]; exact hz)
   rw [hbr] at this; exact this
 ·have e1:=hk 3 h3 (by omega)
  obtain ⟨ha, -⟩:=har (by omega)
  have hz : Pts (red s l).S (repN s l (s.S.cell y r.C.f)) z:=hz
  rw [repN_cell] at hz
  have:=(pts_shut (red s l).S _ (hin (fun h => by have:=h.1; omega))).2.2.1 h3 y (by rw [ha]; exact hy) z hz
  rw [hbr] at this; exact this
 ·have e1:=hk 4 h4 (by omega)
  obtain ⟨ha, -⟩:=har (by omega)
  show Pts (red s l).S (repN s l (s.S.cell y r.C.f)) z
  rw [repN_cell]
  exact (pts_shut (red s l).S _ (hin (fun h => by have:=h.1; omega))).2.2.2.1 h4 y (by rw [hbr]; exact hy) z (by rw [ha]; exact hz)
 ·have e1:=hk 5 h5 (by omega)
  obtain ⟨ha, -⟩:=har (by omega)
  have:=(pts_shut (red s l).S _ (hin (fun h => by have:=h.1; omega))).2.2.2.2 h5 z (by rw [ha]; exact hz) hzs
  rw [hbr] at this; exact this
theorem pts_from (hv : Vld s) (hl : Lds (eI (copE s.cons)) s.vars.toNat l) {i x : Nat} (h : Pts (red s l).S i x) : Pts s.S i x:=by
 refine Pts.least (p:=fun i x => Pts s.S i x) (fun c hc => ?_) h
 obtain ⟨d,hd,rfl⟩:=mem_S.1 hc
 obtain ⟨⟨r,hr,rfl⟩, -⟩:=red_mem.1 hd
 have hrv:=hv.cons r hr
 have hv0:=hv.vars
 have hrS : r.C ∈ s.S.cons:=mem_S.2 ⟨r,hr,rfl⟩
 have hb : r.C.b < s.vars.toNat:=by show r.b.toNat < _; have:=hrv.b; omega
 have hbr : (redC l r).C.b = repN s l r.C.b:=by rw [repN_var hb]; rfl
 have hk : ∀ k : Nat,(redC l r).C.k = k→1 ≤ k→r.k = (k : Int):=fun k e h1 => by have : r.k.toNat = k:=e; omega
 have har : r.k ≠ 1→(redC l r).C.a = repN s l r.C.a:=fun h1 => by
  have ha:=hrv.a
  rw [if_neg h1] at ha
  have : r.C.a < s.vars.toNat:=by show r.a.toNat < _; omega
  rw [repN_var this,red_C]
  simp only [h1,if_false]
  rfl
 have hcell : ∀ y f,(red s l).S.cell y f = s.S.cell y f:=fun _ _ => rfl
 refine ⟨fun h1 => ?_,fun h2 z hz => ?_,fun h3 y hy z hz => ?_,fun h4 y hy z hz => ?_,fun h5 z hz hzs => ?_⟩
 ·have e1 : r.k = 1:=hk 1 h1 (by omega)
  have ha : (redC l r).C.a = r.C.a:=by rw [red_C]; show (if r.k = 1 then r.a else nth l r.a.toNat).toNat = r.a.toNat; rw [if_pos e1]
  show Pts s.S (redC l r).C.b (redC l r).C.a
  rw [hbr,ha, ← pts_rep hl]
  exact (pts_shut s.S _ hrS).1 h1
 ·have e1:=hk 2 h2 (by omega)
  have hz : Pts s.S (redC l r).C.a z:=hz
  show Pts s.S (redC l r).C.b z
  rw [hbr, ← pts_rep hl]
  rw [har (by omega), ← pts_rep hl] at hz
  exact (pts_shut s.S _ hrS).2.1 h2 z hz
 ·have e1:=hk 3 h3 (by omega)
  have hy : Pts s.S (redC l r).C.a y:=hy
  show Pts s.S (redC l r).C.b z
  rw [hbr, ← pts_rep hl]
  rw [har (by omega), ← pts_rep hl] at hy
  exact (pts_shut s.S _ hrS).2.2.1 h3 y hy z hz
 ·have e1:=hk 4 h4 (by omega)
  have hz : Pts s.S (redC l r).C.a z:=hz
  have hy : Pts s.S (redC l r).C.b y:=hy
  rw [har (by omega), ← pts_rep hl] at hz
  rw [hbr, ← pts_rep hl] at hy
  exact (pts_shut s.S _ hrS).2.2.2.1 h4 y hy z hz
 ·have e1:=hk 5 h5 (by omega)
  have hz : Pts s.S (redC l r).C.a z:=hz
  show Pts s.S (redC l r).C.b z
  rw [hbr, ← pts_rep hl]
  rw [har (by omega), ← pts_rep hl] at hz
  exact (pts_shut s.S _ hrS).2.2.2.2 h5 z hz hzs
theorem pts_red (hv : Vld s) (hl : Lds (eI (copE s.cons)) s.vars.toNat l) {i x : Nat} : Pts s.S i x ↔ Pts (red s l).S (repN s l i) x :=
 ⟨pts_to hv,fun h => (pts_rep hl).2 (pts_from hv hl h)⟩
end
end Go.Clp
namespace Go.Proofs.YtgblfjccccdidaaGreat
open Go.RowKit Go.Dfl Go.Clp Go.And
theorem sol_exp {s : Sy} {l : List Int} {lu lv : List (List Int)} (hv : Vld s) (hl : Lds (eI (copE s.cons)) s.vars.toNat l) (h : Sol (red s l).S lu lv) : Sol s.S (expL lu l) lv:=by
 obtain ⟨h1,h2,h3,h4⟩:=h
 refine ⟨by rw [expL_len]; exact hl.1,h2,fun i hi => ?_,fun i hi => ?_⟩
 ·have hi' : i < s.vars.toNat:=hi
  rw [expL_nth (by rw [hl.1]; exact hi)]
  have hle:=hl.le hi'
  obtain ⟨L,e1,e2,e3⟩:=h3 (nth l i).toNat (by show _ < s.vars.toNat; omega)
  exact ⟨L,e1,e2,fun y => by rw [e3,pts_red hv hl,repN_var hi']⟩
 ·obtain ⟨L,e1,e2,e3⟩:=h4 i hi
  refine ⟨L,e1,e2,fun y => ?_⟩
  rw [e3,pts_red hv hl (i:=s.S.vars + i)]
  have : repN s l (s.S.vars + i) = s.S.vars + i:=if_neg (by show ¬ s.vars.toNat + i < s.vars.toNat; omega)
  rw [this]; rfl
theorem sol_bnd {s : Sy} {lu lv : List (List Int)} (hv : Vld s) (h : Sol s.S lu lv) (hs : Sm s) : (∀ i,i < lu.length→(∀ x ∈ nth lu i,0 ≤ x∧x < s.sites)∧(nth lu i).length ≤ 12)∧∀ i,i < lv.length→(∀ x ∈ nth lv i,0 ≤ x∧x < s.sites)∧(nth lv i).length ≤ 12:=by
 have key : ∀ i m,IsSol s.S i m→(∀ x ∈ m,0 ≤ x∧x < s.sites)∧m.length ≤ 12:=fun i m ⟨L,e1,e2,e3⟩ => by
  have hb : ∀ y ∈ L,y < s.sites.toNat:=fun y hy => (pts_bound hv.ok ((e3 y).1 hy)).2
  have hsi:=hs.sites
  refine ⟨fun x hx => ?_, ?_⟩
  ·rw [e1] at hx
   obtain ⟨y,hy,rfl⟩:=List.mem_map.1 hx
   have:=hb y hy
   omega
  ·rw [e1,List.length_map]
   exact Nat.le_trans (sorted_len' e2 hb) (by omega)
 exact ⟨fun i hi => key i _ (h.2.2.1 i (by rw [← h.1]; exact hi)),fun i hi => key _ _ (h.2.2.2 i (by rw [← h.2.1]; exact hi))⟩
end Go.Proofs.YtgblfjccccdidaaGreat
end
section
namespace Go.Clp
open Go.Tj (IsHd)
open Go.And (Sy)
def eF (s : Sy) (lu : List (List Int)) (a b : Nat) : Prop:=edT s lu s.cons.length (a,b)
def FinHd (s : Sy) (lu : List (List Int)) (hd : List Int) : Prop:=hd.length = s.S.N∧∀ v,v < s.S.N→∃ m : Nat,Go.Dfl.nth hd v = (m : Int)∧IsHd (eF s lu) v m
end Go.Clp
namespace Go.Proofs.YtgblfjccccdidaaGreat
open Go.RowKit Go.Dfl Go.Gra Go.Clp Go.Tj Go.Spl
open Go.And (R Sy Vld Sm chkG chkCode colC colC_ok chkG_ok chkCode_ok Syst)
def GSolR (s : Sy) (W : World) (e : Ending) (W' : World) : Prop :=
 (colC s ≠ 0∧e = .returned (.tuple #[.agg #[.slice none 0 0,.slice none 0 0],.int .i64 0,.int .i64 (colC s)])∧Below W.heap.size W W') ∨
 (colC s = 0∧∃ ua uc va vc lu lv hd,e = .returned (.tuple #[.agg #[.slice ua s.S.vars uc,.slice va (s.S.sites * s.S.fields) vc],.int .i64 ((offH s.S.vars hd : Nat) : Int),.int .i64 0])∧PtsIn W' (.slice ua s.S.vars uc) (.slice va (s.S.sites * s.S.fields) vc) lu lv∧Sol s.S lu lv∧FinHd s lu hd∧Below W.heap.size W W')
theorem eF_lt {s : Sy} {lu lv : List (List Int)} (hv : Vld s) (hs : Sm s) (h : Sol s.S lu lv) {a b : Nat} (he : eF s lu a b) : a < s.S.N∧b < s.S.N:=by
 obtain ⟨i,hi,hm⟩:=he
 have hc:=hv.cons _ (nth_mem _ _ hi)
 have hb:=(sol_bnd hv h hs).1
 have hl : lu.length = s.vars.toNat:=h.1
 have hv0:=hv.vars
 have hcell : ∀ x,0 ≤ x∧x < s.sites→(nth s.cons i).f < s.fields→cellI s x (nth s.cons i).f < s.S.N:=fun x hx hf => by
  unfold cellI
  show _ < s.vars.toNat + s.sites.toNat * s.fields.toNat
  have h1 : x.toNat * s.fields.toNat + s.fields.toNat ≤ s.sites.toNat * s.fields.toNat:=by rw [← Nat.succ_mul]; exact Nat.mul_le_mul_right _ (by omega)
  have:=hc.f'
  omega
 have hN : s.vars.toNat ≤ s.S.N:=Nat.le_add_right _ _
 unfold edR at hm
 have ha:=hc.a
 have hbb:=hc.b
 by_cases h2 : (nth s.cons i).k = 2
 ·rw [if_pos h2,List.mem_singleton] at hm
  rw [if_neg (by omega)] at ha
  simp only [Prod.mk.injEq] at hm
  omega
 ·rw [if_neg h2] at hm
  by_cases h3 : (nth s.cons i).k = 3
  ·rw [if_pos h3] at hm
   rw [if_neg (by omega)] at ha
   obtain ⟨x,hx,he⟩:=List.mem_map.1 hm
   simp only [Prod.mk.injEq] at he
   have:=hcell x ((hb _ (by omega)).1 x hx) (hc.f (.inl h3)).2
   omega
  ·rw [if_neg h3] at hm
   by_cases h4 : (nth s.cons i).k = 4
   ·rw [if_pos h4] at hm
    rw [if_neg (by omega)] at ha
    obtain ⟨x,hx,he⟩:=List.mem_map.1 hm
    simp only [Prod.mk.injEq] at he
    have:=hcell x ((hb _ (by omega)).1 x hx) (hc.f (.inr h4)).2
    omega
   ·rw [if_neg h4] at hm; cases hm
set_option maxHeartbeats 6400000 in
set_option maxRecDepth 100000 in
theorem gSolve_any (s : Sy) (cv : Value) (W : World) (hc : ConsIn W cv s.cons) (hs : Sm s) : Calls Tryz.prog 17 #[SysV s cv] W (GSolR s W):=by
 obtain ⟨ca,cc,rfl, -, -, -⟩:=hc.out
 have hl9 : s.cons.length ≤ 1000:=by have:=hs.cons; omega
 have hbs:=(BoxS.new W s (.slice ca s.cons.length cc) 24).grown (grownBy_alloc _ (.cells #[.slice none 0 0,.slice none 0 0] 34)) (by simp)
 have hrx:=ExM.new (W.alloc (.cells #[.int .i64 s.vars,.int .i64 s.sites,.int .i64 s.fields,.slice ca s.cons.length cc] 24)) 34
 rw [World.size_alloc] at hrx
 have hb0 : Below W.heap.size W ((W.alloc (.cells #[.int .i64 s.vars,.int .i64 s.sites,.int .i64 s.fields,.slice ca s.cons.length cc] 24)).alloc (.cells #[.slice none 0 0,.slice none 0 0] 34)):=((Below.refl _ _).alloc (Nat.le_refl _) _).alloc (by simp) _
 have H0:=Lib.hid (And.intro hc (And.intro hs (And.intro hbs (And.intro hrx hb0))))
 clear hc hs hbs hrx hb0
 unfold SysV
 go_enter Tryz.func17,Tryz.ntmps17
 go_wp2_with fail
 have hrd:=gReduce_any s (.slice ca s.cons.length cc) _ (H0.out.1.below H0.out.2.2.2.2) hl9
 unfold SysV at hrd
 refine hrd.mono ?_
 intro e W1 hpost
 rcases hpost with ⟨hne,rfl,b1⟩ | ⟨hz,l,ra,rc,rv,rfl,hl,hcr,hir,b1⟩
 ·have x0 : (colC s != 0) = true:=by simpa using hne
  have hb:=H0.out.2.2.2.2.trans (b1.mono H0.out.2.2.2.2.size)
  have hx:=H0.out.2.2.2.1.grown (grownBy_below b1)
  have r0:=hx.c0
  have r1:=hx.c1
  have f0:=hx.frz 0
  have f1:=hx.frz 1
  have lr:=hx.lt
  have nr:=Nat.ne_of_lt lr
  have HC:=Lib.hid (And.intro hne (And.intro hb hx))
  clear hne b1 hrd hb hx
  generalize hcd : colC s = code at *
  have HCD:=Lib.hid hcd
  clear hcd
  go_wp2_with fail
  (try simp only [Exit.inBlock,Exit.then])
  refine bodyPost_ret (v:=.tuple #[.agg #[.slice none 0 0,.slice none 0 0],.int .i64 0,.int .i64 code]) (by rw [results_cell3 rfl]; go_simp; try rfl) rfl ?_
  refine .inl ⟨by rw [HCD.out]; exact HC.out.1,by rw [HCD.out], ?_⟩
  exact ((HC.out.2.1.setCell (show W.heap.size ≤ (⟨W.heap.size + 1,0,none⟩ : Addr).block by simp) _).setCell (show W.heap.size ≤ (⟨W.heap.size + 1,1,none⟩ : Addr).block by simp) _).alloc (by rw [World.size_setCell,World.size_setCell]; exact HC.out.2.1.size) _
 ·have hv:=chkCode_ok.1 (chkG_ok (colC_ok hz).1).1
  have hb:=H0.out.2.2.2.2.trans (b1.mono H0.out.2.2.2.2.size)
  have hx:=H0.out.2.2.2.1.grown (grownBy_below b1)
  have hbs:=H0.out.2.2.1.grown (grownBy_below b1) (by simp)
  obtain ⟨N1,hN1⟩ : ∃ N1,N1 = (redL l s.cons).length:=⟨_,rfl⟩
  have gA:=grownBy_alloc W1 (.cells #[.int .i64 s.vars,.int .i64 s.sites,.int .i64 s.fields,.slice ra N1 rc] 24)
  have bA:=(Below.refl W1.heap.size W1).alloc (Nat.le_refl _) (.cells #[.int .i64 s.vars,.int .i64 s.sites,.int .i64 s.fields,.slice ra N1 rc] 24)
  obtain ⟨bb,hbb⟩ : ∃ bb,bb = W.heap.size:=⟨_,rfl⟩
  obtain ⟨br,hbr⟩ : ∃ br,br = W.heap.size + 1:=⟨_,rfl⟩
  rw [← hbr] at hx
  rw [← hbb] at hbs
  rw [← hN1] at hcr
  have H1:=Lib.hid (And.intro hz (And.intro hv (And.intro hl (And.intro (And.intro hcr (And.intro hir hN1)) (And.intro hb (And.intro hx (And.intro hbs (And.intro hbb hbr))))))))
  rw [← hbr, ← hbb]
  rw [show SysV (red s l) (.slice ra (redL l s.cons).length rc) = .agg #[.int .i64 s.vars,.int .i64 s.sites,.int .i64 s.fields,.slice ra N1 rc] by rw [hN1]; rfl]
  clear hz hl hcr hir hN1 b1 hb hx hbs hbb hbr hrd
  go_wp2_with fail
  have hcr2 : ConsIn (W1.alloc (.cells #[.int .i64 s.vars,.int .i64 s.sites,.int .i64 s.fields,.slice ra N1 rc] 24)) (.slice ra N1 rc) (red s l).cons:=H1.out.2.2.2.1.1.below bA
  have hsv:=Solve_any (red s l) (.slice ra N1 rc) _ hcr2 (red_sm H0.out.2.1)
  unfold SysV at hsv
  refine Calls.mono hsv ?_
  intro e W2 hpost
  have hok:=chkCode_ok.2 (red_vld H1.out.2.1 H1.out.2.2.1)
  rcases hpost with ⟨hne, -⟩ | ⟨-,ua,uc,va,vc,lu,lv,rfl,hpi,hsol,b2⟩
  ·exact absurd hok hne
  have hb2 : Below W.heap.size W W2:=(H1.out.2.2.2.2.1.trans (bA.mono H1.out.2.2.2.2.1.size)).trans (b2.mono (by have:=H1.out.2.2.2.2.1.size; simp; omega))
  have g12 : W1.grownBy W2 none:=grownBy_trans gA (grownBy_below b2)
  have hx2:=H1.out.2.2.2.2.2.1.grown g12
  have hbs2:=H1.out.2.2.2.2.2.2.1.grown g12 (by simp)
  have hir2 : Ints W2 rv l:=(H1.out.2.2.2.1.2.1.below bA).below b2
  have hsol2:=sol_exp H1.out.2.1 H1.out.2.2.1 hsol
  obtain ⟨V,hV⟩ : ∃ V,V = s.S.vars:=⟨_,rfl⟩
  obtain ⟨M,hM⟩ : ∃ M,M = s.S.sites * s.S.fields:=⟨_,rfl⟩
  have hpi2 : PtsIn W2 (.slice ua V uc) (.slice va M vc) lu lv:=by rw [hV,hM]; exact hpi
  have hval : (.returned (.tuple #[.agg #[.slice ua (red s l).S.vars uc,.slice va ((red s l).S.sites * (red s l).S.fields) vc],.int .i64 0]) : Ending) = .returned (.tuple #[.agg #[.slice ua V uc,.slice va M vc],.int .i64 0]):=by rw [hV,hM]; rfl
  rw [hval]
  have H2:=Lib.hid (And.intro hsol (And.intro hsol2 (And.intro hpi2 (And.intro hir2 (And.intro hb2 (And.intro hx2 (And.intro hbs2 (And.intro hV hM))))))))
  clear hok hpi hsol b2 hb2 g12 hx2 hbs2 hir2 hsol2 hV hM hpi2 hval hsv hcr2 gA bA
  go_wp2_with fail
  obtain ⟨⟨us1,gu⟩,⟨vs1,gv⟩⟩:=H2.out.2.2.1
  have hA8:=(Below.refl W2.heap.size W2).alloc (Nat.le_refl _) (.cells #[.slice ua V uc,.slice va M vc] 34)
  have hbd:=sol_bnd (red_vld H1.out.2.1 H1.out.2.2.1) H2.out.1 (red_sm H0.out.2.1)
  have hlul : l.length = lu.length:=by rw [H1.out.2.2.1.1]; exact H2.out.1.1.symm
  have hvn : s.vars.toNat ≤ 40:=by have:=H0.out.2.1.vars; omega
  have hlvl : lv.length = M:=H2.out.1.2.1.trans H2.out.2.2.2.2.2.2.2.2.symm
  have hMle : M ≤ 60:=by
   rw [H2.out.2.2.2.2.2.2.2.2]
   have h1:=H0.out.2.1.sites
   have h2:=H0.out.2.1.fields
   have : s.S.sites * s.S.fields ≤ 12 * 5:=Nat.mul_le_mul (by show s.sites.toNat ≤ 12; omega) (by show s.fields.toNat ≤ 5; omega)
   omega
  have hchk : Prt.chk l = 0:=Prt.chk_mk (by rw [H1.out.2.2.1.1]; omega) fun i hi => by
   rw [H1.out.2.2.1.1] at hi
   have:=H1.out.2.2.1.le hi
   exact ⟨this.1,this.2.1,H1.out.2.2.1.self hi⟩
  refine (Expand_any (.slice ua V uc) (.slice va M vc) rv us1 vs1 lu lv l _ (gu.below hA8) (gv.below hA8) (H2.out.2.2.2.1.below hA8) (fun i hi => by have:=(hbd.1 i hi).2; omega) (fun i hi => by have:=(hbd.2 i hi).2; omega) (by omega)).mono ?_
  intro e W3 hpost
  rcases hpost with ⟨hne, -⟩ | ⟨-,hne, -⟩ | ⟨-, -,xa,xc,ya,yc,rfl,hpi3,b3⟩
  ·exact absurd hlul hne
  ·exact absurd hchk hne
  have hll : l.length = V:=H1.out.2.2.1.1.trans H2.out.2.2.2.2.2.2.2.1.symm
  rw [hll,hlvl,World.size_alloc] at hpi3
  rw [hll,hlvl]
  have g23:=grownBy_trans (grownBy_alloc W2 (.cells #[.slice ua V uc,.slice va M vc] 34)) (grownBy_below b3)
  have hx8 : ExM W2.heap.size (.slice ua V uc) (.slice va M vc) [] [] [] [] W2 W2→True:=fun _ => trivial
  obtain ⟨b8,hb8⟩ : ∃ b8,b8 = W2.heap.size:=⟨_,rfl⟩
  have k8 : (W3.cell? ⟨b8,0,none⟩ = some (.slice ua V uc)∧W3.cell? ⟨b8,1,none⟩ = some (.slice va M vc))∧W3.frozen? ⟨b8,0,none⟩ = false∧W3.frozen? ⟨b8,1,none⟩ = false:=by
   have hn:=cells_new (W:=W2) (cs:=[.slice ua V uc,.slice va M vc]) (t:=34) (B:=b8) hb8
   have hbl:=heap_alloc_new W2 (.cells #[.slice ua V uc,.slice va M vc] 34)
   have h9:=(b3.block W2.heap.size (by simp)).trans hbl
   rw [← hb8] at h9
   refine ⟨⟨(grownBy_below b3).cell (hn 0 _ rfl) (by simp),(grownBy_below b3).cell (hn 1 _ rfl) (by simp)⟩,by simp [World.frozen?,h9],by simp [World.frozen?,h9]⟩
  have hb3 : Below W.heap.size W W3:=H2.out.2.2.2.2.1.grown g23 H2.out.2.2.2.2.1.size (by simp)
  have hx3:=H2.out.2.2.2.2.2.1.grown g23
  have hbs3:=H2.out.2.2.2.2.2.2.1.grown g23 (by simp)
  have hsz8 : b8 < W3.heap.size:=World.block_lt_of_cell? W3 _ k8.1.1
  have hn8 : bb < b8∧br < b8∧bb < br:=by have h1:=H1.out.2.2.2.2.2.2.2.1; have h2:=H1.out.2.2.2.2.2.2.2.2; have h3:=H2.out.2.2.2.2.2.1.lt; omega
  rw [← hb8] at hpi3
  have H3:=Lib.hid (And.intro (And.intro hpi3 (And.intro g23 hb8)) (And.intro hb3 (And.intro hx3 (And.intro hbs3 (And.intro hvn (And.intro hMle (And.intro hn8 (And.intro hlul hll))))))))
  obtain ⟨⟨k80,k81⟩,k8f0,k8f1⟩:=k8
  rw [← hb8]
  clear gu gv hA8 hbd hlul hlvl hchk hpi3 b3 g23 hx8 hb8 hb3 hx3 hbs3 hll
  go_upto_region 10 with fail
  have gs:=grownBy_trans (grownBy_setCell W3 ⟨b8,0,none⟩ (.slice xa V xc)) (grownBy_setCell (W3.setCell ⟨b8,0,none⟩ (.slice xa V xc)) ⟨b8,1,none⟩ (.slice ya M yc))
  have hp4 : Own2 ((W3.setCell ⟨b8,0,none⟩ (.slice xa V xc)).setCell ⟨b8,1,none⟩ (.slice ya M yc)) (b8 + 1) (.slice xa V xc) (.slice ya M yc) (expL lu l) lv:=H3.out.1.1.grown gs (fun k e => by have:=Option.some.inj e; dsimp only at this; omega)
  have g4 : W2.grownBy ((W3.setCell ⟨b8,0,none⟩ (.slice xa V xc)).setCell ⟨b8,1,none⟩ (.slice ya M yc)) none:=grownBy_fresh (grownBy_trans (grownBy_widen H3.out.1.2.1) gs) (by rw [H3.out.1.2.2]; exact Nat.le_refl _)
  have c40 : ((W3.setCell ⟨b8,0,none⟩ (.slice xa V xc)).setCell ⟨b8,1,none⟩ (.slice ya M yc)).cell? ⟨b8,0,none⟩ = some (.slice xa V xc):=by
   rw [World.cell?_setCell_other _ _ _ _ (by intro e; simp at e)]; exact World.cell?_setCell_same _ _ _ k80
  have c41 : ((W3.setCell ⟨b8,0,none⟩ (.slice xa V xc)).setCell ⟨b8,1,none⟩ (.slice ya M yc)).cell? ⟨b8,1,none⟩ = some (.slice ya M yc) :=
   World.cell?_setCell_same _ _ _ (by rw [World.cell?_setCell_other _ _ _ _ (by intro e; simp at e)]; exact k81)
  refine wp_gen (fun Z => Own2 Z (b8 + 1) (.slice xa V xc) (.slice ya M yc) (expL lu l) lv∧W2.grownBy Z none∧Z.cell? ⟨b8,0,none⟩ = some (.slice xa V xc)∧Z.cell? ⟨b8,1,none⟩ = some (.slice ya M yc)) ⟨hp4,g4,c40,c41⟩ ?_
  intro W4 hW4
  have H4:=Lib.hid hW4
  clear hW4 gs hp4 g4 c40 c41 k80 k81 k8f0 k8f1
  go_upto_region 11 with fail
  have g45:=grownBy_alloc W4 (.cells #[.int .i64 0] 3)
  have hfz5 : (W4.alloc (.cells #[.int .i64 0] 3)).frozen? ⟨W4.heap.size,0,none⟩ = false:=by
   have hb:=heap_alloc_new W4 (.cells #[.int .i64 0] 3)
   simp only [World.frozen?,hb]
   first | rfl | simp
  refine wp_gen (fun Z => W4.grownBy Z none∧Z.cell? ⟨W4.heap.size,0,none⟩ = some (.int .i64 0)∧Z.frozen? ⟨W4.heap.size,0,none⟩ = false∧Z.heap.size = W4.heap.size + 1) ⟨g45,cell_alloc1 _ _ _,hfz5,by simp⟩ ?_
  intro W5 hW5
  obtain ⟨b9,hb9⟩ : ∃ b9,b9 = W4.heap.size:=⟨_,rfl⟩
  rw [← hb9] at hW5 ⊢
  have HB9:=Lib.hid (And.intro hb9 hW5.1)
  have g25 : W2.grownBy W5 none:=grownBy_trans H4.out.2.1 hW5.1
  have hx5:=H2.out.2.2.2.2.2.1.grown g25
  obtain ⟨s0,s1,s2,s3⟩:=H2.out.2.2.2.2.2.2.1.grown g25 (by simp)
  have hp5:=H4.out.1.grown hW5.1 (by simp)
  have k80:=hW5.1.cell H4.out.2.2.1 (by simp)
  have k81:=hW5.1.cell H4.out.2.2.2 (by simp)
  have hb5 : Below W.heap.size W W5:=H2.out.2.2.2.2.1.grown g25 H2.out.2.2.2.2.1.size (by simp)
  have hlt9 : b8 < b9:=by rw [hb9]; exact World.block_lt_of_cell? W4 _ H4.out.2.2.1
  have H5:=Lib.hid (And.intro hp5 (And.intro hb5 (And.intro hx5 (And.intro hlt9 (And.intro hW5.2 g25)))))
  clear g45 hfz5 hb9 hx5 hp5 hb5 hlt9 g25 hW5
  go_wp2_with fail
  obtain ⟨⟨us5,gu5⟩,⟨vs5,gv5⟩⟩:=H5.out.1.pts
  have hbd:=sol_bnd H1.out.2.1 H2.out.2.1 H0.out.2.1
  have hfin:=final_any s (.slice ca s.cons.length cc) (.slice xa V xc) (.slice ya M yc) us5 vs5 (expL lu l) lv W5 (H0.out.1.below H5.out.2.1) H0.out.2.1 H1.out.2.1 gu5 gv5 (by rw [expL_len]; exact H1.out.2.2.1.1) H2.out.1.2.1 (fun i hi => (hbd.1 i hi).1) (fun i hi => (hbd.1 i hi).2)
  unfold SysV at hfin
  refine Calls.mono hfin ?_
  rintro e W6 ⟨fa,fc,fus,D,rfl,hN6,hmem,hDl,b6⟩
  obtain ⟨n,hn⟩ : ∃ n,n = s.vars.toNat + s.sites.toNat * s.fields.toNat:=⟨_,rfl⟩
  rw [← hn] at hN6 ⊢
  have hnS : n = s.S.N:=hn
  have g6:=grownBy_below b6
  have hvn:=H3.out.2.2.2.2.1
  have hn100 : n ≤ 100:=by
   have h1:=H3.out.2.2.2.2.2.1
   have h2:=H2.out.2.2.2.2.2.2.2.2
   have h3 : s.S.sites * s.S.fields = s.sites.toNat * s.fields.toNat:=rfl
   omega
  have hlt6 : ∀ v w,w ∈ Go.Kah.row D v→v < n∧w < n:=fun v w hw => by
   have:=(hmem (v,w)).1 (Go.Kah.mem_row.1 hw)
   rw [hnS]; exact eF_lt H1.out.2.1 H0.out.2.1 H2.out.2.1 this
  have hcomp:=components_any n bb b9 b9 s.vars fa fc fus (nextL D n) (fun v => Go.Kah.row D v) W6 (by omega) H1.out.2.1.vars (by omega) (g6.cell s0 (by simp)) (g6.cell H5.out.2.2.2.2.1.1 (by simp)) (by rw [World.frozen?_of_block (a:=⟨b9,0,none⟩) (g6.block b9 (by have:=H5.out.2.2.2.2.1.2.2; omega) (by simp))]; exact H5.out.2.2.2.2.1.2.1) (Nat.le_refl _) (by have:=H3.out.2.2.2.2.2.2.1; have:=H5.out.2.2.2.1; omega)
   (ownN_mono hN6 (by have:=H5.out.2.2.2.2.1.2.2; omega)) (nextL_len _ _) (fun q hq e => by have:=(hN6.foot kIIg q hq).1; have:=H5.out.2.2.2.2.1.2.2; omega) (fun v hv => nextL_nth hv) hlt6 (fun v => by
    have h1 : (Go.Kah.row D v).length ≤ D.length:=by unfold Go.Kah.row; rw [List.length_map]; exact List.length_filter_le _ _
    omega)
  have HCO:=Lib.hid (And.intro hcomp (And.intro hmem (And.intro hnS (And.intro b6 hn))))
  clear hcomp hmem hnS hn hN6 hDl hlt6 hfin gu5 gv5 hbd b6
  go_wp2_with fail
  refine Calls.mono HCO.out.1 ?_
  rintro e W7 ⟨rfl,hd,hdl,hdh,c9,f9,g7⟩
  have g6:=grownBy_below HCO.out.2.2.2.1
  have hn9:=H3.out.2.2.2.2.2.2.1
  have hl9':=H5.out.2.2.2.1
  have ne8 : some b8 ≠ some b9:=fun e => by have:=Option.some.inj e; omega
  have ner : some br ≠ some b9:=fun e => by have:=Option.some.inj e; omega
  have q80:=g7.cell (g6.cell k80 (by simp)) ne8
  have q81:=g7.cell (g6.cell k81 (by simp)) ne8
  have hx5:=H5.out.2.2.1
  have r0:=g7.cell (g6.cell hx5.c0 (by simp)) ner
  have r1:=g7.cell (g6.cell hx5.c1 (by simp)) ner
  have lr6 : br < W6.heap.size:=World.block_lt_of_cell? W6 _ (g6.cell hx5.c0 (by simp))
  have hfr : ∀ i,W7.frozen? ⟨br,i,none⟩ = false:=fun i => by
   rw [World.frozen?_of_block (a:=⟨br,i,none⟩) (g7.block br lr6 ner),World.frozen?_of_block (a:=⟨br,i,none⟩) (g6.block br hx5.lt (by simp))]; exact hx5.frz i
  have f0:=hfr 0
  have f1:=hfr 1
  have g57 : W5.grownBy W7 (some b9):=grownBy_trans (grownBy_widen g6) g7
  have hp7 : Own2 W7 (b8 + 1) (.slice xa V xc) (.slice ya M yc) (expL lu l) lv:=by
   obtain ⟨⟨us,h1⟩,vs,h2⟩:=H4.out.1
   have g47 : W4.grownBy W7 (some b9):=grownBy_trans (grownBy_widen HB9.out.2) g57
   exact ⟨⟨us,h1.grown kInt g47 fun k e hf => by obtain rfl:=Option.some.inj e; have:=(h1.foot kInt _ hf).2; have:=HB9.out.1; omega⟩,vs,h2.grown kInt g47 fun k e hf => by obtain rfl:=Option.some.inj e; have:=(h2.foot kInt _ hf).2; have:=HB9.out.1; omega⟩
  have hb7 : Below W.heap.size W W7:=H5.out.2.1.grown g57 H5.out.2.1.size fun k e => by have:=Option.some.inj e; have:=H1.out.2.2.2.2.2.2.2.1; omega
  have HF:=Lib.hid (And.intro hp7 (And.intro hb7 (And.intro hdl hdh)))
  obtain ⟨mg,hmg⟩ : ∃ mg,mg = offH s.vars.toNat hd:=⟨_,rfl⟩
  rw [← hmg] at c9
  have HMG:=Lib.hid hmg
  have nbr : br ≠ b8:=by omega
  have nbr9 : br ≠ b9:=by omega
  clear g6 hn9 hx5 lr6 hfr g57 hp7 hb7 hdl hdh hmg g7 s0 s1 s2 s3 k80 k81 f9 ne8 ner hl9'
  go_upto_region 12 with fail
  refine wp_region_mix [0,1] [2,3,4] (fun w' => (w'.cell? ⟨b8,0,none⟩ = some (.slice xa V xc)∧w'.cell? ⟨b8,1,none⟩ = some (.slice ya M yc))∧w'.cell? ⟨b9,0,none⟩ = some (.int .i64 (mg : Int))) (by kernel_rfl) (by kernel_rfl) (by kernel_rfl) ⟨⟨q80,q81⟩,c9⟩ ?_
  repeat (
   refine wpHeads_cons (v:=?_) rfl (Or.inl ⟨by rfl, ?_⟩) ?_
   rotate_left
   ·(intro W hW; obtain ⟨⟨q1,q2⟩,q3⟩:=hW; go_simp; try with_reducible rfl)
   simp only [Act.put,List.setIfInBounds_toArray,List.getElem_toArray,List.getElem_cons_zero,List.getElem_cons_succ,List.set_cons_succ,List.set_cons_zero])
  refine wpHeads_nil ?_
  have d80 : W7.drew.cell? ⟨b8,0,none⟩ = some (.slice xa V xc):=q80
  have d81 : W7.drew.cell? ⟨b8,1,none⟩ = some (.slice ya M yc):=q81
  have d9 : W7.drew.cell? ⟨b9,0,none⟩ = some (.int .i64 (mg : Int)):=c9
  have dr0 : W7.drew.cell? ⟨br,0,none⟩ = some (.slice none 0 0):=r0
  have dr1 : W7.drew.cell? ⟨br,1,none⟩ = some (.slice none 0 0):=r1
  have df0 : W7.drew.frozen? ⟨br,0,none⟩ = false:=f0
  have df1 : W7.drew.frozen? ⟨br,1,none⟩ = false:=f1
  have gs:=grownBy_trans (grownBy_setCell W7.drew ⟨br,0,none⟩ (.slice xa V xc)) (grownBy_setCell (W7.drew.setCell ⟨br,0,none⟩ (.slice xa V xc)) ⟨br,1,none⟩ (.slice ya M yc))
  have hS8 : (((W7.drew.setCell ⟨br,0,none⟩ (.slice xa V xc)).setCell ⟨br,1,none⟩ (.slice ya M yc)).cell? ⟨b8,0,none⟩ = some (.slice xa V xc)∧((W7.drew.setCell ⟨br,0,none⟩ (.slice xa V xc)).setCell ⟨br,1,none⟩ (.slice ya M yc)).cell? ⟨b8,1,none⟩ = some (.slice ya M yc))∧((W7.drew.setCell ⟨br,0,none⟩ (.slice xa V xc)).setCell ⟨br,1,none⟩ (.slice ya M yc)).cell? ⟨b9,0,none⟩ = some (.int .i64 (mg : Int)) :=
   ⟨⟨gs.cell d80 (fun e => nbr (Option.some.inj e).symm),gs.cell d81 (fun e => nbr (Option.some.inj e).symm)⟩,gs.cell d9 (fun e => nbr9 (Option.some.inj e).symm)⟩
  have hp9:=(HF.out.1.grown (grownBy_drew0 W7) (by simp)).grown gs (fun k e => by have:=Option.some.inj e; have:=H3.out.2.2.2.2.2.2.1; dsimp only at *; omega)
  have hb9:=((HF.out.2.1.trans ((Below.refl W7.heap.size W7).drew.mono HF.out.2.1.size)).setCell (show W.heap.size ≤ (⟨br,0,none⟩ : Addr).block by have:=H1.out.2.2.2.2.2.2.2.2; show _ ≤ br; omega) (.slice xa V xc)).setCell (show W.heap.size ≤ (⟨br,1,none⟩ : Addr).block by have:=H1.out.2.2.2.2.2.2.2.2; show _ ≤ br; omega) (.slice ya M yc)
  have HZ:=Lib.hid (And.intro hS8 (And.intro hp9 hb9))
  clear gs hS8 hp9 hb9 q80 q81 c9 r0 r1 f0 f1
  generalize W7.drew = W8 at *
  refine wpTails_cons rfl ?_
  go_wp2_with fail
  refine tail_mk HZ.out.1 ?_
  refine wpTails_cons rfl ?_
  go_wp2_with fail
  refine tail_mk HZ.out.1 ?_
  refine wpTails_one rfl ?_
  go_wp2_with fail
  refine thenQ_mk ?_
  go_wp2_with fail
  (try simp only [Exit.inBlock,Exit.then])
  refine bodyPost_ret (v:=.tuple #[.agg #[.slice xa V xc,.slice ya M yc],.int .i64 (mg : Int),.int .i64 0]) (by rw [results_cell3 rfl]; go_simp; try rfl) rfl ?_
  refine .inr ⟨H1.out.1,xa,xc,ya,yc,expL lu l,lv,hd, ?_, ?_,H2.out.2.1,⟨HF.out.2.2.1.trans HCO.out.2.2.1,fun v hv => ?_⟩,HZ.out.2.2⟩
  ·rw [HMG.out,H2.out.2.2.2.2.2.2.2.1,H2.out.2.2.2.2.2.2.2.2]; rfl
  ·rw [← H2.out.2.2.2.2.2.2.2.1, ← H2.out.2.2.2.2.2.2.2.2]; exact HZ.out.2.1.pts
  ·obtain ⟨m,h1,h2⟩:=HF.out.2.2.2 v (by rw [HCO.out.2.2.1]; exact hv)
   exact ⟨m,h1,Go.Clp.IsHd.iff (h:=fun a b => Go.Kah.mem_row.trans (HCO.out.2.1 (a,b))) h2⟩
end Go.Proofs.YtgblfjccccdidaaGreat
end
section
namespace Go.Proofs.YtgblfjccccdidaaGreat
open Go.RowKit Go.Dfl Go.And
theorem consIn_lit {W : World} {b : Nat} (rs : List RC) (l : List R) (hlen : rs.length = l.length) (hcap : l.length ≤ 1000) (hb : ∀ j y,(rs.flatMap RC.vals)[j]? = some y→W.cell? ⟨b,j,none⟩ = some y) (h : ∀ i,i < l.length→(nth rs i).k = (nth l i).k∧(nth rs i).a = (nth l i).a∧(nth rs i).b = (nth l i).b∧(nth rs i).f = (nth l i).f∧(nth rs i).set = .slice none 0 0∧(nth l i).s = []) :
  ConsIn W (.slice (some ⟨b,0,none⟩) l.length l.length) l:=by
 refine ⟨rs,hlen,⟨some ⟨b,0,none⟩,l.length,rfl,Nat.le_refl _,by unfold maxLen; omega,fun i hi => ⟨rfl, ?_,fun j hj => ?_⟩⟩,fun i hi => ?_⟩
 ·have h1:=flat_get (E:=elC) rs i 0 (by omega) (by show 0 < 5; omega)
  have h2 : ((RC.vals (nth rs i))[0]?) = some (.int .i64 (nth rs i).k):=rfl
  exact World.block_lt_of_cell? W ⟨b,i * 5 + 0,none⟩ (hb _ _ (h1.trans h2))
 ·have h1:=flat_get (E:=elC) rs i j (by omega) hj
  have h2 : ∃ y,(RC.vals (nth rs i))[j]? = some y:=by
   have : j < (RC.vals (nth rs i)).length:=by simp [RC.vals]; omega
   exact ⟨_,List.getElem?_eq_getElem this⟩
  obtain ⟨y,hy⟩:=h2
  have h3 : W.cell? ⟨b,i * 5 + j,none⟩ = some y:=hb _ _ (h1.trans hy)
  show W.cell? ⟨b,0 + i * 5 + j,none⟩ = _
  rw [show 0 + i * 5 + j = i * 5 + j by omega,h3]
  show some y = some (((RC.vals (nth rs i))[j]?).getD undef)
  rw [hy]; rfl
 ·obtain ⟨h1,h2,h3,h4,h5,h6⟩:=h i hi
  exact ⟨h1,h2,h3,h4,by rw [h5,h6]; exact Lst.nil _ _⟩
theorem grid_lit {W : World} {b : Nat} (vs : List Value) (ll : List (List Int)) (hlen : vs.length = ll.length) (hcap : vs.length ≤ 1000) (hb : ∀ j y,vs[j]? = some y→W.cell? ⟨b,j,none⟩ = some y) (h : ∀ i,i < ll.length→Ints W (nth vs i) (nth ll i)) :
  Grid (Value.int .i64) W (.slice (some ⟨b,0,none⟩) vs.length vs.length) vs ll:=by
 refine ⟨⟨some ⟨b,0,none⟩,vs.length,rfl,Nat.le_refl _,by unfold maxLen; omega,fun i hi => ?_⟩,hlen,h⟩
 have h1:=hb i (nth vs i) (by rw [nth_eq _ _ hi]; exact List.getElem?_eq_getElem hi)
 refine ⟨rfl,World.block_lt_of_cell? W ⟨b,i,none⟩ h1,fun j hj => ?_⟩
 obtain rfl : j = 0:=by omega
 show W.cell? ⟨b,0 + i * 1 + 0,none⟩ = _
 rw [show 0 + i * 1 + 0 = i by omega]; exact h1
theorem ints_cell {W : World} {b : Nat} {x : Int} (h : W.cell? ⟨b,0,none⟩ = some (.int .i64 x)) : Ints W (.slice (some ⟨b,0,none⟩) 1 1) [x]:=by
 refine ⟨some ⟨b,0,none⟩,1,rfl,by simp,by unfold maxLen; omega,fun i hi => ⟨rfl,World.block_lt_of_cell? W _ h,fun j hj => ?_⟩⟩
 simp at hi
 obtain rfl : j = 0:=by omega
 obtain rfl : i = 0:=by omega
 simpa [blk,ofs,nth] using h
end Go.Proofs.YtgblfjccccdidaaGreat
end
section
namespace Go.Clp
open Go.Dfl (nth nth_set nth_mem mem_nth nth_eq nth_ext nth_append nth_out take_snoc)
open Go.Tj (Rt Sc IsHd)
open Go.And (R Sy C Syst Pts Shut Holds pts_shut pts_bound Vld VldC Sm colC)
def w0 : Sy:=⟨3,1,0, [⟨2,0,2,0, []⟩,⟨2,2,0,0, []⟩,⟨2,1,2,0, []⟩,⟨1,0,1,0, []⟩]⟩
def wN : Sy:=⟨-1,0,0, []⟩
theorem col_w0 : colC w0 = 0:=by decide
theorem col_wN : colC wN = 4:=by decide
theorem cop_w0 : copE w0.cons = [(0,2),(2,0),(1,2)]:=by decide
theorem lds_of {E : Nat→Nat→Prop} (h : ∀ a b,E a b ↔ (a = 0∧b = 2) ∨ (a = 2∧b = 0) ∨ (a = 1∧b = 2)) : Lds E 3 [0,1,0]:=by
 have e02 : E 0 2:=(h 0 2).2 (by simp)
 have e20 : E 2 0:=(h 2 0).2 (by simp)
 have cl : ∀ a b,(a = 0 ∨ a = 2)→E a b→(b = 0 ∨ b = 2):=fun a b ha hab => by
  rcases (h a b).1 hab with h1 | h1 | h1 <;> omega
 refine ⟨rfl,fun v hv => ?_⟩
 have hv3 : v = 0 ∨ v = 1 ∨ v = 2:=by omega
 rcases hv3 with rfl | rfl | rfl
 ·exact ⟨0,rfl,Sc.refl E 0,fun w _ => Nat.zero_le _⟩
 ·refine ⟨1,rfl,Sc.refl E 1,fun w hw => ?_⟩
  false_or_by_contra
  have h0 : w = 0:=by omega
  subst h0
  have:=hw.2.closed (P:=fun x => x = 0 ∨ x = 2) (fun a b ha hab => cl a b ha hab) (.inl rfl)
  omega
 ·exact ⟨0,rfl,⟨.step (.refl 2) e20,.step (.refl 0) e02⟩,fun w _ => Nat.zero_le _⟩
theorem lds_w0 {l : List Int} (h : Lds (eI (copE w0.cons)) 3 l) : l = [0,1,0]:=h.unique (lds_of fun a b => by
 unfold eI
 rw [cop_w0]
 simp; omega)
theorem cyc_w0 : cycL [0,1,0] 3 = [[0,2]]:=by decide
theorem red_w0 : redL [0,1,0] w0.cons = [⟨2,1,0,0, []⟩,⟨1,0,1,0, []⟩]:=rfl
end Go.Clp
namespace Go.Proofs.YtgblfjccccdidaaGreat
open Go.RowKit Go.Dfl Go.Gra Go.Clp Go.Tj
open Go.And (R Sy Vld Sm chkG chkCode colC colC_ok chkG_ok chkCode_ok Syst Pts pts_bound)
theorem sm_w0 : Sm w0:=⟨by decide,by decide,by decide,by decide⟩
theorem sol_w0 {lu lv : List (List Int)} (h : Sol w0.S lu lv) : lu = [[0], [0], [0]]∧lv = []:=by
 have h1 : Pts w0.S 1 0:=fun p hp => (hp ⟨1,0,1,0, []⟩ (by simp [w0,Sy.S,R.C])).1 rfl
 have h2 : Pts w0.S 2 0:=fun p hp => (hp ⟨2,1,2,0, []⟩ (by simp [w0,Sy.S,R.C])).2.1 rfl 0 (h1 p hp)
 have h0 : Pts w0.S 0 0:=fun p hp => (hp ⟨2,2,0,0, []⟩ (by simp [w0,Sy.S,R.C])).2.1 rfl 0 (h2 p hp)
 have hv:=chkCode_ok.1 (chkG_ok (colC_ok col_w0).1).1
 have hS : ∀ i,Pts w0.S i 0→IsSol w0.S i [0]:=fun i hi => ⟨[0],rfl,by simp,fun y => by
  constructor
  ·intro h; simp at h; subst h; exact hi
  ·intro h
   have:=(pts_bound hv.ok h).2
   have e : w0.S.sites = 1:=rfl
   simp; omega⟩
 refine Sol.unique h ⟨rfl,rfl,fun i hi => ?_,fun i hi => ?_⟩
 ·have : i = 0 ∨ i = 1 ∨ i = 2:=by have : w0.S.vars = 3:=rfl; omega
  rcases this with rfl | rfl | rfl
  ·exact hS 0 h0
  ·exact hS 1 h1
  ·exact hS 2 h2
 ·have : w0.S.sites * w0.S.fields = 0:=rfl
  omega
theorem off_w0 {lu : List (List Int)} {hd : List Int} (h : FinHd w0 lu hd) : offH 3 hd = 1:=by
 have h2 : Lds (eF w0 lu) 3 hd:=h
 have h3:=h2.unique (lds_of fun a b => by
  unfold eF edT edR
  constructor
  ·rintro ⟨i,hi,hm⟩
   have : i = 0 ∨ i = 1 ∨ i = 2 ∨ i = 3:=by have : w0.cons.length = 4:=rfl; omega
   rcases this with rfl | rfl | rfl | rfl <;> (simp [w0,nth] at hm; try omega)
  ·rintro (⟨rfl,rfl⟩ | ⟨rfl,rfl⟩ | ⟨rfl,rfl⟩)
   ·exact ⟨0,by decide,by simp [w0,nth]⟩
   ·exact ⟨1,by decide,by simp [w0,nth]⟩
   ·exact ⟨2,by decide,by simp [w0,nth]⟩)
 rw [h3]; decide
theorem calls_genC {P : Program} {f : FuncId} {args : Array Value} {w : World} {Q : Ending→World→Prop} (p : World→Prop) (hw : p w) (h : ∀ W,p W→Calls P f args W Q) : Calls P f args w Q:=h w hw
theorem nilConsC (W : World) : ConsIn W (.slice none 0 0) []:=⟨[],rfl,⟨none,0,rfl,by simp,by unfold maxLen; omega,fun i hi => by simp at hi⟩,fun i hi => by simp at hi⟩
theorem nilGridC (W : World) : Grid (Value.int .i64) W (.slice none 0 0) [] []:=⟨Lst.nil _ _,rfl,fun i hi => by simp at hi⟩
def w0c : List RC:=[⟨2,0,2,0,none,0,0⟩,⟨2,2,0,0,none,0,0⟩,⟨2,1,2,0,none,0,0⟩,⟨1,0,1,0,none,0,0⟩]
structure AwC (W0 : World) (bs : Nat) (cv : Value) (Z : World) : Prop where
 c : ConsIn Z cv w0.cons
 b : BoxS Z bs w0 cv
 bel : Below W0.heap.size W0 Z
theorem AwC.below {W0 : World} {bs : Nat} {cv : Value} {Z Z' : World} (h : AwC W0 bs cv Z) (hb : Below Z.heap.size Z Z') : AwC W0 bs cv Z':=⟨h.c.below hb,h.b.grown (grownBy_below hb) (by simp),h.bel.trans (hb.mono h.bel.size)⟩
set_option maxHeartbeats 12800000 in
set_option maxRecDepth 100000 in
theorem awake_any (W : World) : Calls Tryz.prog 9 #[] W fun e W' => e = .returned (.bool true)∧Below W.heap.size W W':=by
 go_enter Tryz.func9,Tryz.ntmps9
 go_wp2_with fail
 have hc0:=cells_new (W:=W) (cs:=w0c.flatMap RC.vals) (t:=48) rfl
 have hx0 : ConsIn (W.alloc (.cells (w0c.flatMap RC.vals).toArray 48)) (.slice (some ⟨W.heap.size,0,none⟩) 4 4) w0.cons:=consIn_lit w0c w0.cons rfl (by decide) hc0 (fun i hi => by
  have : i = 0 ∨ i = 1 ∨ i = 2 ∨ i = 3:=by have : w0.cons.length = 4:=rfl; omega
  rcases this with rfl | rfl | rfl | rfl <;> exact ⟨rfl,rfl,rfl,rfl,rfl,rfl⟩)
 refine calls_genC (fun Z => ConsIn Z (.slice (some ⟨W.heap.size,0,none⟩) 4 4) w0.cons∧BoxS Z (W.heap.size + 1) w0 (.slice (some ⟨W.heap.size,0,none⟩) 4 4)∧Below W.heap.size W Z) ⟨hx0.below ((Below.refl _ _).alloc (Nat.le_refl _) _), ?_,((Below.refl _ _).alloc (Nat.le_refl _) _).alloc (by simp) _⟩ ?_
 ·have:=BoxS.new (W.alloc (.cells (w0c.flatMap RC.vals).toArray 48)) w0 (.slice (some ⟨W.heap.size,0,none⟩) 4 4) 24
  rw [show (W.alloc (.cells (w0c.flatMap RC.vals).toArray 48)).heap.size = W.heap.size + 1 by simp only [World.size_alloc]] at this
  exact this
 clear hc0 hx0
 rintro Z1 ⟨hx1,hb1,hbe1⟩
 obtain ⟨bs,hbs⟩ : ∃ bs,bs = W.heap.size + 1:=⟨_,rfl⟩
 obtain ⟨cv,hcv⟩ : ∃ cv,cv = Value.slice (some ⟨W.heap.size,0,none⟩) 4 4:=⟨_,rfl⟩
 rw [← hbs, ← hcv] at hb1
 rw [← hcv] at hx1
 rw [← hbs, ← hcv]
 have H1:=Lib.hid (show AwC W bs cv Z1 from ⟨hx1,hb1,hbe1⟩)
 have oc : cv.oneCell' = true:=by rw [hcv]; rfl
 clear hx1 hb1 hbe1 hbs hcv
 refine (gCycles_any w0 cv Z1 H1.out.c (by decide)).mono ?_
 intro e W2 hpost
 rcases hpost with ⟨hbad, -⟩ | ⟨-,l,v,vs,rfl,hl,hg,q2⟩
 ·exact absurd col_w0 hbad
 have e3 : w0.vars.toNat = 3:=rfl
 rw [e3] at hl hg
 obtain rfl:=lds_w0 hl
 rw [cyc_w0] at hg
 obtain ⟨va,vc,rfl, -,vi,vcell⟩:=grid_rdC hg
 have e1 : ([[0,2]] : List (List Int)).length = 1:=rfl
 rw [e1] at vi vcell ⊢
 have vi0:=vi .i64 0 (by omega) (by omega)
 simp only [Int.toNat_zero,Nat.add_zero] at vi0
 have cv0:=(vcell 0 (by omega)).1
 rw [Nat.add_zero] at cv0
 have hr0 : Ints W2 (nth vs 0) [0,2]:=hg.2.2 0 (by decide)
 obtain ⟨ra,rc,hrv, -,ri,rcell, -⟩:=hr0.out1 sIntC
 have e2 : ([0,2] : List Int).length = 2:=rfl
 rw [e2] at hrv ri rcell
 rw [hrv] at cv0
 have ri0:=ri .i64 0 (by omega) (by omega)
 have ri1:=ri .i64 1 (by omega) (by omega)
 simp only [Int.toNat_zero,Int.toNat_one,Nat.add_zero] at ri0 ri1
 have cr0 : W2.cell? ⟨blk ra,ofs ra,none⟩ = some (.int .i64 0):=rcell 0 (by omega)
 have cr1 : W2.cell? ⟨blk ra,ofs ra + 1,none⟩ = some (.int .i64 2):=rcell 1 (by omega)
 have HCY:=Lib.hid (And.intro cv0 (And.intro cr0 cr1))
 have hA2:=H1.out.below q2
 obtain ⟨d0,d1,d2,d3⟩:=hA2.b
 have H2:=Lib.hid hA2
 have ls2:=World.block_lt_of_cell? _ _ d0
 have ns2:=Nat.ne_of_lt ls2
 dsimp only at ls2 ns2
 clear hA2
 clear hl hg e3 e1 e2 vi vcell hr0 hrv ri rcell cv0 cr0 cr1 q2 H1
 go_wp2_with fail
 clear d0 d1 d2 d3
 refine (gReduce_any w0 cv W2 H2.out.c (by decide)).mono ?_
 intro e W3 hpost
 rcases hpost with ⟨hbad, -⟩ | ⟨-,l,ta,tc,rv,rfl,hl,hct,hir,q3⟩
 ·exact absurd col_w0 hbad
 have e3 : w0.vars.toNat = 3:=rfl
 rw [e3] at hl
 obtain rfl:=lds_w0 hl
 have eSys : SysV (red w0 [0,1,0]) (.slice ta (redL [0,1,0] w0.cons).length tc) = .agg #[.int .i64 3,.int .i64 1,.int .i64 0,.slice ta 2 tc]:=rfl
 rw [eSys]
 rw [show (redL [0,1,0] w0.cons).length = 2 from rfl,red_w0] at hct
 obtain ⟨ta2,tc2,ht2, -,ti,tcell⟩:=hct.out
 have e4 : ([⟨2,1,0,0, []⟩,⟨1,0,1,0, []⟩] : List R).length = 2:=rfl
 rw [e4] at ht2 ti tcell
 simp only [Value.slice.injEq] at ht2
 obtain ⟨rfl, -,rfl⟩:=ht2
 obtain ⟨-, -, -, -,k1,k2, -, -, -, -⟩:=tcell 0 (by omega)
 obtain ⟨-, -, -,k5, -, -, -, -, -, -⟩:=tcell 1 (by omega)
 have ti0:=ti 0 (by omega) (by omega)
 have ti1:=ti 1 (by omega) (by omega)
 simp only [Int.toNat_zero,Int.toNat_one,Nat.zero_mul,Nat.one_mul,Nat.add_zero] at ti0 ti1 k1 k2 k5
 have k1 : W3.cell? ⟨blk ta,ofs ta + 1,none⟩ = some (.int .i64 1):=k1
 have k2 : W3.cell? ⟨blk ta,ofs ta + 2,none⟩ = some (.int .i64 0):=k2
 have k5 : W3.cell? ⟨blk ta,ofs ta + 5,none⟩ = some (.int .i64 1):=k5
 obtain ⟨pa,pc,rfl, -,pi,pcell, -⟩:=hir.out1 sIntC
 have e5 : ([0,1,0] : List Int).length = 3:=rfl
 rw [e5] at pi pcell ⊢
 have pi1:=pi .i64 1 (by omega) (by omega)
 have pi2:=pi .i64 2 (by omega) (by omega)
 simp only [Int.toNat_one,show ((2 : Int)).toNat = 2 from rfl] at pi1 pi2
 have cp1 : W3.cell? ⟨blk pa,ofs pa + 1,none⟩ = some (.int .i64 1):=pcell 1 (by omega)
 have cp2 : W3.cell? ⟨blk pa,ofs pa + 2,none⟩ = some (.int .i64 0):=pcell 2 (by omega)
 have HRD:=Lib.hid (And.intro k1 (And.intro k2 (And.intro k5 (And.intro cp1 (And.intro cp2 (grownBy_below q3))))))
 have hA3:=H2.out.below q3
 obtain ⟨d0,d1,d2,d3⟩:=hA3.b
 have H3:=Lib.hid hA3
 have ls3:=World.block_lt_of_cell? _ _ d0
 have ns3:=Nat.ne_of_lt ls3
 dsimp only at ls3 ns3
 clear hA3
 clear hl e3 eSys hct ti tcell e4 k1 k2 k5 hir pi pcell e5 cp1 cp2 q3 H2
 go_wp2_with fail
 clear d0 d1 d2 d3 ls3 ns3 ls2 ns2
 have hbx3:=cells_new (W:=W3) (cs:=[.int .i64 3,.int .i64 1,.int .i64 0,.slice ta 2 tc]) (t:=24) rfl
 have HB3:=Lib.hid (And.intro (hbx3 0 _ rfl) (hbx3 3 _ rfl))
 have hA3:=H3.out.below ((Below.refl W3.heap.size W3).alloc (Nat.le_refl _) (.cells #[.int .i64 3,.int .i64 1,.int .i64 0,.slice ta 2 tc] 24))
 clear hbx3
 refine (gSolve_any w0 cv _ hA3.c sm_w0).mono ?_
 intro e W4 hpost
 rcases hpost with ⟨hbad, -⟩ | ⟨-,ua,uc,xa,xc,lu,lv,hd,rfl,⟨⟨us,gu⟩, -⟩,hsol,hfin,q4⟩
 ·exact absurd col_w0 hbad
 rw [show w0.S.vars = 3 from rfl,show w0.S.sites * w0.S.fields = 0 from rfl,off_w0 hfin]
 obtain ⟨rfl,rfl⟩:=sol_w0 hsol
 obtain ⟨ua2,uc2,hu2, -,ui,ucell⟩:=grid_rdC gu
 have e4 : ([[0], [0], [0]] : List (List Int)).length = 3:=rfl
 rw [e4] at hu2 ui ucell
 have e5 : w0.S.vars = 3:=rfl
 rw [e5] at hu2 gu
 simp only [Value.slice.injEq] at hu2
 obtain ⟨rfl, -,rfl⟩:=hu2
 have ui0:=ui .i64 0 (by omega) (by omega)
 simp only [Int.toNat_zero,Nat.add_zero] at ui0
 have cu0:=(ucell 0 (by omega)).1
 rw [Nat.add_zero] at cu0
 obtain ⟨ya,yc,hyv, -, -, -, -⟩:=(gu.2.2 0 (by decide)).out1 sIntC
 rw [show (nth ([[0], [0], [0]] : List (List Int)) 0).length = 1 from rfl] at hyv
 rw [hyv] at cu0
 have HSV:=Lib.hid (And.intro cu0 (And.intro (grownBy_alloc W3 (.cells #[.int .i64 3,.int .i64 1,.int .i64 0,.slice ta 2 tc] 24)) (grownBy_below q4)))
 have hA4:=hA3.below q4
 have hbr4 : W3.heap.size < W4.heap.size:=Nat.lt_of_lt_of_le (by simp) q4.size
 have H4:=Lib.hid (And.intro hA4 hbr4)
 clear gu hsol hfin q4 e4 e5 ui ucell cu0 hyv hA3 hA4 hbr4
 go_wp2_with fail
 refine calls_genC (fun Z => W4.grownBy Z none∧Z.cell? ⟨W4.heap.size,0,none⟩ = some (.slice ua 3 uc)∧Grid (Value.int .i64) Z (.slice (some ⟨W4.heap.size + 1 + 1,0,none⟩) 3 3) [.slice (some ⟨W4.heap.size + 1,0,none⟩) 1 1,.slice none 0 0,.slice none 0 0] [[0], [], []]∧Ints Z (.slice (some ⟨W4.heap.size + 1 + 1 + 1,0,none⟩) 3 3) [0,1,0]) ?_ ?_
 ·have hZ : Below W4.heap.size W4 ((((W4.alloc (.cells #[.slice ua 3 uc,.slice xa 0 xc] 34)).alloc (.cells #[.int .i64 0] 3)).alloc (.cells #[.slice (some ⟨W4.heap.size + 1,0,none⟩) 1 1,.slice none 0 0,.slice none 0 0] 32)).alloc (.cells #[.int .i64 0,.int .i64 1,.int .i64 0] 3)):=by
   repeat (refine Below.alloc ?_ (by simp; try omega) _)
   exact Below.refl _ _
  refine ⟨grownBy_below hZ,by go_simp,grid_lit [.slice (some ⟨W4.heap.size + 1,0,none⟩) 1 1,.slice none 0 0,.slice none 0 0] [[0], [], []] rfl (by simp) (fun j y h => ?_) (fun i hi => ?_), ?_⟩
  ·rcases j with _ | _ | _ | j
   ·simp at h; subst h; go_simp
   ·simp at h; subst h; go_simp
   ·simp at h; subst h; go_simp
   ·simp at h
  ·rcases i with _ | _ | _ | i
   ·exact ints_cell (by go_simp)
   ·exact Lst.nil _ _
   ·exact Lst.nil _ _
   ·simp at hi; omega
  ·refine ⟨some ⟨W4.heap.size + 1 + 1 + 1,0,none⟩,3,rfl,by simp,by unfold maxLen; omega,fun i hi => ⟨rfl,by simp [blk],fun j hj => ?_⟩⟩
   obtain rfl : j = 0:=by omega
   rcases i with _ | _ | _ | i
   ·simp only [blk,ofs,nth]; go_simp
   ·simp only [blk,ofs,nth]; go_simp
   ·simp only [blk,ofs,nth]; go_simp
   ·simp at hi; omega
 rintro Z5 ⟨g45,c70,hgr,hip⟩
 have hA5:=H4.out.1.below (Z':=Z5) ⟨g45.os,g45.tape,g45.output,g45.size,fun k hk => g45.block k hk (by simp)⟩
 refine (Expand_any _ (.slice none 0 0) _ _ [] [[0], [], []] [] [0,1,0] Z5 hgr (nilGridC _) hip (fun i hi => ?_) (fun i hi => by simp at hi) (by simp)).mono ?_
 ·have : i = 0 ∨ i = 1 ∨ i = 2:=by simp at hi; omega
  rcases this with rfl | rfl | rfl <;> simp [nth]
 intro e W6 hpost
 rcases hpost with ⟨hbad, -⟩ | ⟨-,hbad, -⟩ | ⟨-, -,za,zc,zb,zd,rfl,⟨⟨zs,gz⟩, -⟩,q6⟩
 ·exact absurd rfl hbad
 ·exact absurd (by decide) hbad
 rw [show expL [[0], [], []] [0,1,0] = [[0], [], [0]] from rfl] at gz
 have gz:=gz.grid
 rw [show ([0,1,0] : List Int).length = 3 from rfl,show ([] : List (List Int)).length = 0 from rfl]
 rw [show ([0,1,0] : List Int).length = 3 from rfl] at gz
 obtain ⟨za2,zc2,hz2, -,zi,zcell⟩:=grid_rdC gz
 have e4 : ([[0], [], [0]] : List (List Int)).length = 3:=rfl
 rw [e4] at hz2 zi zcell
 simp only [Value.slice.injEq] at hz2
 obtain ⟨rfl, -,rfl⟩:=hz2
 have zi2:=zi .i64 2 (by omega) (by omega)
 simp only [show ((2 : Int)).toNat = 2 from rfl] at zi2
 have cz2:=(zcell 2 (by omega)).1
 obtain ⟨yb,yd,hyv, -, -, -, -⟩:=(gz.2.2 2 (by decide)).out1 sIntC
 rw [show (nth ([[0], [], [0]] : List (List Int)) 2).length = 1 from rfl] at hyv
 rw [hyv] at cz2
 have HEX:=Lib.hid (And.intro cz2 (And.intro c70 (And.intro g45 (grownBy_below q6))))
 have hA6:=hA5.below q6
 have H6:=Lib.hid (And.intro hA6 (And.intro (show W4.heap.size < W6.heap.size from Nat.lt_of_lt_of_le (World.block_lt_of_cell? Z5 _ c70) q6.size) trivial))
 clear gz zi zcell cz2 hyv e4 hgr hip q6 hA5 hA6 c70 g45
 go_wp2_with fail
 refine calls_genC (fun Z => W6.grownBy Z none∧Z.cell? ⟨W6.heap.size,0,none⟩ = some (.slice za 3 zc)∧Ints Z (.slice (some ⟨W6.heap.size + 1,0,none⟩) 1 1) [0]) ?_ ?_
 ·have hZ : Below W6.heap.size W6 ((W6.alloc (.cells #[.slice za 3 zc,.slice zb 0 zd] 34)).alloc (.cells #[.int .i64 0] 3)):=by
   repeat (refine Below.alloc ?_ (by simp) _)
   exact Below.refl _ _
  exact ⟨grownBy_below hZ,by go_simp,ints_cell (by go_simp)⟩
 rintro Z7 ⟨g67,c10,hi7⟩
 have hA7:=H6.out.1.below (Z':=Z7) ⟨g67.os,g67.tape,g67.output,g67.size,fun k hk => g67.block k hk (by simp)⟩
 refine (Expand_any (.slice none 0 0) (.slice none 0 0) _ [] [] [] [] [0] Z7 (nilGridC _) (nilGridC _) hi7 (fun i hi => by simp at hi) (fun i hi => by simp at hi) (by simp)).mono ?_
 intro e W8 hpost
 rcases hpost with ⟨-,rfl,q8⟩ | ⟨hbad, -⟩ | ⟨hbad, -⟩
 rotate_left
 ·exact absurd hbad (by decide)
 ·exact absurd hbad (by decide)
 have hA8:=hA7.below q8
 have H8:=Lib.hid (And.intro hA8 (And.intro g67 (And.intro c10 (grownBy_below q8))))
 clear hA7 hA8 g67 c10 hi7 q8
 go_wp2_with fail
 refine calls_genC (fun Z => W8.grownBy Z none) (grownBy_below ((Below.refl W8.heap.size W8).alloc (Nat.le_refl _) _)) ?_
 intro Z8 g88
 refine (gCycles_any wN (.slice none 0 0) Z8 (nilConsC _) (by decide)).mono ?_
 intro e W9 hpost
 rcases hpost with ⟨-,rfl,q9⟩ | ⟨hbad, -⟩
 rotate_left
 ·rw [col_wN] at hbad; exact absurd hbad (by decide)
 rw [col_wN]
 have g89:=g88.trans (grownBy_below q9)
 have hA9:=H8.out.1.below (Z':=W9) ⟨g89.os,g89.tape,g89.output,g89.size,fun k hk => g89.block k hk (by simp)⟩
 obtain ⟨cz2,c70,g45,g56⟩:=HEX.out
 obtain ⟨-,g67,c10,g78⟩:=H8.out
 obtain ⟨cu0,g33,g34⟩:=HSV.out
 obtain ⟨k1,k2,k5,cp1,cp2,g23⟩:=HRD.out
 obtain ⟨cv0,cr0,cr1⟩:=HCY.out
 obtain ⟨cb0,cb3⟩:=HB3.out
 have g79:=g78.trans g89
 have g69:=g67.trans g79
 have g59:=g56.trans g69
 have g49:=g45.trans g59
 have g39:=g34.trans g49
 have g309:=g33.trans g39
 have g29:=g23.trans g309
 have cv0:=g29.cell cv0 (by simp)
 have cr0:=g29.cell cr0 (by simp)
 have cr1:=g29.cell cr1 (by simp)
 have k1:=g309.cell k1 (by simp)
 have k2:=g309.cell k2 (by simp)
 have k5:=g309.cell k5 (by simp)
 have cp1:=g309.cell cp1 (by simp)
 have cp2:=g309.cell cp2 (by simp)
 have cb0:=g39.cell cb0 (by simp)
 have cb3:=g39.cell cb3 (by simp)
 have cu0:=g49.cell cu0 (by simp)
 have c70:=g59.cell c70 (by simp)
 have cz2:=g69.cell cz2 (by simp)
 have c10:=g79.cell c10 (by simp)
 have hbel:=Lib.hid hA9.bel
 clear hA9 HEX H8 HSV HRD HCY HB3 g29 g309 g39 g49 g59 g69 g79 g78 g67 g45 g56 g33 g34 g23 g88 g89 q9 H6 H4
 go_wp2_with fail
 go_wp2_with fail
 go_ret
 exact ⟨rfl,hbel.out⟩
end Go.Proofs.YtgblfjccccdidaaGreat
end
section
namespace Go.Dfl
open Go.ChangeShapes Go.WideShapes Go.ChangeAt Go.RowKit Go.Deep
theorem cell_lt {w : World} {a : Addr} {v : Value} (h : w.cell? a = some v) : a.block < w.heap.size∧a.spot = none:=by
 refine ⟨?_,World.cell?_spot h⟩
 unfold World.cell? at h
 split at h
 ·rename_i he; exact (Array.getElem?_eq_some_iff.1 he).1
 ·simp at h
theorem addr_none {x : Addr} (h : x.spot = none) (i : Nat) : x.add i = ⟨x.block,x.off + i,none⟩:=by
 obtain ⟨b,o,s⟩:=x
 simp at h; subst h
 simp [Addr.add]
theorem add_spot {x : Addr} {w : World} {v : Value} {i : Nat} (hi : i = 0) (h : w.cell? (x.add i) = some v) : x.spot = none:=by
 subst hi; simpa [Addr.add] using World.cell?_spot h
section
variable {H : Type} {enc : TypeId × Value→H} {P : Program} {w : World} {base : Nat} {spare : Nat→Bool} {held : Bool}
theorem ints_of_trod {t e : TypeId} (ht : P.underlying t = some (.slice e)) (he : P.underlying e = some (.int .i64)) (hc : P.cellsOf e = 1) {a : Option Addr} {len cap : Nat} {d : DataW H} {p : List MemPlace}
  (h : DataW.Trod enc P w base spare held t (.slice a len cap) d p) : ∃ l,l.length = len∧Ints w (.slice a len cap) l∧∀ x ∈ l, -9223372036854775808 ≤ x∧x ≤ 9223372036854775807:=by
 obtain ⟨fuel,hf⟩:=h
 rcases open_ints ht he hc hf with ⟨hcs,_⟩ | ⟨x,l,c,zs,hcs,_,hl,hm,hz,_,hcell,hwz⟩
 ·simp [Value.cells] at hcs
  obtain ⟨rfl,rfl,rfl⟩:=hcs
  exact ⟨[],rfl,Lst.nil _ _,by simp⟩
 ·simp [Value.cells] at hcs
  obtain ⟨rfl,rfl,rfl⟩:=hcs
  have hlz : len ≤ zs.length:=by rw [hz]; split <;> omega
  refine ⟨zs.take len,by simp; omega,⟨some x,cap, ?_, ?_,hm,fun i hi => ?_⟩, ?_⟩
  ·rw [List.length_take]; congr 1; omega
  ·simp; omega
  ·simp at hi
   have h0:=hcell 0 (by omega)
   have hsp : x.spot = none:=add_spot rfl h0
   have hi':=hcell i (by omega)
   rw [addr_none hsp] at hi'
   refine ⟨?_,(cell_lt hi').1,fun j hj => ?_⟩
   ·obtain ⟨b,o,s⟩:=x; simp at hsp; subst hsp; rfl
   ·obtain rfl : j = 0:=by omega
    simp only [blk,ofs,Nat.mul_one,Nat.add_zero]
    rw [hi']
    congr 2
    simp [nth,List.getElem?_take]
    rw [if_pos (by omega)]
  ·intro y hy
   have:=hwz y (List.mem_of_mem_take hy)
   have:=bounds_i64 this
   omega
end
end Go.Dfl
end
section
namespace Go.Dfl
theorem choice2 {α β : Type} [Inhabited α] [Inhabited β] (p : Nat→α→β→Prop) : ∀ n,(∀ i,i < n→∃ x y,p i x y)→∃ (xs : List α) (ys : List β),xs.length = n∧ys.length = n∧∀ i,i < n→p i (nth xs i) (nth ys i)
 | 0,_ => ⟨[], [],rfl,rfl,fun i hi => by omega⟩
 | n + 1,h => by
   obtain ⟨xs,ys,h1,h2,h3⟩:=choice2 p n fun i hi => h i (by omega)
   obtain ⟨x,y,h4⟩:=h n (by omega)
   refine ⟨xs ++ [x],ys ++ [y],by simp [h1],by simp [h2],fun i hi => ?_⟩
   rw [nth_append,nth_append]
   by_cases e : i < n
   ·rw [if_pos (by omega),if_pos (by omega)]; exact h3 i e
   ·have : i = n:=by omega
    subst this
    rw [if_neg (by omega),if_neg (by omega),h1,h2,Nat.sub_self]
    exact h4
end Go.Dfl
namespace Go.Proofs.YtgblfjccccdidaaGreat
open Go.ChangeShapes Go.WideShapes Go.ChangeAt Go.RowKit Go.Dfl Go.Deep Go.And
theorem cI : Tryz.prog.cellsOf 3 = 1:=by kernel_rfl
theorem cL : Tryz.prog.cellsOf 32 = 1:=by kernel_rfl
theorem cC : Tryz.prog.cellsOf 48 = 5:=by kernel_rfl
theorem cCs : Tryz.prog.cellsOf 22 = 1:=by kernel_rfl
theorem cSy : Tryz.prog.cellsOf 24 = 4:=by kernel_rfl
section
variable {H : Type} {enc : TypeId × Value→H} {w : World} {base : Nat} {spare : Nat→Bool} {held : Bool}
theorem ints_cs {n : Nat} {c : Value} {x : DataW H × List MemPlace} (h : DataW.trod enc Tryz.prog w base spare held n 32 [c] = some x) : ∃ (a : Option Addr) (k m : Nat) (l : List Int),c = .slice a k m∧Ints w c l∧∀ x ∈ l, -9223372036854775808 ≤ x∧x ≤ 9223372036854775807:=by
 rcases open_slice Tryz.underlying32 h with ⟨hcs,_⟩ | ⟨a,len,cap,m,n',D,Pl,hcs,_⟩
 ·simp at hcs; subst hcs
  exact ⟨none,0,0, [],rfl,Lst.nil _ _,by simp⟩
 ·simp at hcs; subst hcs
  obtain ⟨l, -,h2,h3⟩:=ints_of_trod (enc:=enc) (P:=Tryz.prog) (t:=32) (e:=3) Tryz.underlying32 Tryz.underlying3 cI (a:=some a) (len:=len) (cap:=cap) (d:=x.1) (p:=x.2) ⟨n,h⟩
  exact ⟨_,_,_,l,rfl,h2,h3⟩
theorem int_cs {n : Nat} {c : Value} {x : DataW H × List MemPlace} (h : DataW.trod enc Tryz.prog w base spare held n 3 [c] = some x) : ∃ y : Int,c = .int .i64 y∧-9223372036854775808 ≤ y∧y ≤ 9223372036854775807:=by
 obtain ⟨y,e0,_,wy⟩:=DataW.trod_int Tryz.underlying3 h
 simp at e0
 have b0:=bounds_i64 wy
 exact ⟨y,e0,by omega,by omega⟩
set_option maxRecDepth 100000 in
theorem con_cs {n : Nat} {cs : List Value} {x : DataW H × List MemPlace} (h : DataW.trod enc Tryz.prog w base spare held n 48 cs = some x) : ∃ (rc : RC) (r : R),cs = rc.vals∧rc.k = r.k∧rc.a = r.a∧rc.b = r.b∧rc.f = r.f∧Ints w rc.set r.s:=by
 obtain ⟨xs,n', -, -,hlen,hxs,hf⟩:=DataW.trod_struct Tryz.underlying48 h
 rw [cC] at hlen
 match cs,hlen with
 | [k0,k1,k2,k3,k4],_ =>
   match xs,hxs with
   | [x0,x1,x2,x3,x4],_ =>
     have f0 : DataW.trod enc Tryz.prog w base spare held n' 3 [k0] = some x0:=by
      have h9:=hf 0 _ rfl
      simpa [cI,cL] using h9
     have f1 : DataW.trod enc Tryz.prog w base spare held n' 3 [k1] = some x1:=by
      have h9:=hf 1 _ rfl
      simpa [cI,cL] using h9
     have f2 : DataW.trod enc Tryz.prog w base spare held n' 3 [k2] = some x2:=by
      have h9:=hf 2 _ rfl
      simpa [cI,cL] using h9
     have f3 : DataW.trod enc Tryz.prog w base spare held n' 3 [k3] = some x3:=by
      have h9:=hf 3 _ rfl
      simpa [cI,cL] using h9
     have f4 : DataW.trod enc Tryz.prog w base spare held n' 32 [k4] = some x4:=by
      have h9:=hf 4 _ rfl
      simpa [cI,cL] using h9
     obtain ⟨y0,rfl, -⟩:=int_cs f0
     obtain ⟨y1,rfl, -⟩:=int_cs f1
     obtain ⟨y2,rfl, -⟩:=int_cs f2
     obtain ⟨y3,rfl, -⟩:=int_cs f3
     obtain ⟨a,k,m,l,rfl,hI, -⟩:=ints_cs f4
     exact ⟨⟨y0,y1,y2,y3,a,k,m⟩,⟨y0,y1,y2,y3,l⟩,rfl,rfl,rfl,rfl,rfl,hI⟩
set_option maxRecDepth 100000 in
theorem cons_cs {n : Nat} {c : Value} {x : DataW H × List MemPlace} (h : DataW.trod enc Tryz.prog w base spare held n 22 [c] = some x) : ∃ (a : Option Addr) (m : Nat) (l : List R),c = .slice a l.length m∧ConsIn w c l:=by
 rcases open_slice Tryz.underlying22 h with ⟨hcs,_⟩ | ⟨a,len,cap,m,n',D,Pl,hcs,_,hl,hm,hmm,_,hel⟩
 ·simp at hcs; subst hcs
  exact ⟨none,0, [],rfl, [],rfl,⟨none,0,rfl,by simp,by unfold maxLen; omega,fun i hi => by simp at hi⟩,fun i hi => by simp at hi⟩
 ·simp at hcs; subst hcs
  have hlm : len ≤ m:=by rw [hmm]; split <;> omega
  obtain ⟨rs,l,h1,h2,h3⟩:=choice2 (fun i (rc : RC) (r : R) => (∀ j,j < 5→w.cell? ((a.add (i * 5)).add j) = rc.vals[j]?)∧rc.k = r.k∧rc.a = r.a∧rc.b = r.b∧rc.f = r.f∧Ints w rc.set r.s) len (fun i hi => by
   obtain ⟨cs',hc,ht⟩:=hel i (by omega)
   rw [cC] at hc
   obtain ⟨-,hlen,hcell⟩:=World.cells?_some hc
   obtain ⟨rc,r,rfl,q⟩:=con_cs ht
   exact ⟨rc,r,hcell,q⟩)
  refine ⟨some a,cap,l,by rw [h2],rs,by rw [h1,h2],⟨some a,cap,by rw [h2],by omega,hm,fun i hi => ?_⟩,fun i hi => (h3 i (by omega)).2⟩
  have hv : ∀ (rc : RC) j,j < 5→∃ y,rc.vals[j]? = some y:=fun rc j hj => ⟨_,List.getElem?_eq_getElem (by simp [RC.vals]; omega)⟩
  have hsp : a.spot = none:=by
   obtain ⟨y,hy⟩:=hv (nth rs 0) 0 (by omega)
   have:=(h3 0 (by omega)).1 0 (by omega)
   rw [hy] at this
   have h9:=(cell_lt this).2
   obtain ⟨b,o,s⟩:=a
   simp [Addr.add] at h9
   exact h9
  have key : ∀ j,j < 5→w.cell? ⟨a.block,a.off + i * 5 + j,none⟩ = (nth rs i).vals[j]?:=fun j hj => by
   have:=(h3 i (by omega)).1 j hj
   rw [addr_none hsp] at this
   rw [addr_none (x:=⟨a.block,a.off + i * 5,none⟩) rfl] at this
   exact this
  refine ⟨?_, ?_,fun j hj => ?_⟩
  ·obtain ⟨b,o,s⟩:=a; simp at hsp; subst hsp; rfl
  ·obtain ⟨y,hy⟩:=hv (nth rs i) 0 (by omega)
   have:=key 0 (by omega)
   rw [hy] at this
   exact (cell_lt this).1
  ·obtain ⟨y,hy⟩:=hv (nth rs i) j hj
   have:=key j hj
   show w.cell? ⟨a.block,a.off + i * 5 + j,none⟩ = some (((nth rs i).vals[j]?).getD undef)
   rw [this,hy]; rfl
set_option maxRecDepth 100000 in
theorem sys_of_trod {c : Array Value} (hc : c.size = Tryz.prog.cellsOf 24) {d : DataW H} {p : List MemPlace} (h : DataW.Trod enc Tryz.prog w base spare held 24 (.agg c) d p) :
  ∃ (s : Sy) (cv : Value),(.agg c : Value) = SysV s cv∧ConsIn w cv s.cons:=by
 rw [cSy] at hc
 obtain ⟨cs⟩:=c
 match cs,hc with
 | [c0,c1,c2,c3],_ =>
   obtain ⟨fuel,hf0⟩:=h
   have hf1 : DataW.trod enc Tryz.prog w base spare held fuel 24 [c0,c1,c2,c3] = some (d,p):=hf0
   obtain ⟨xs,n', -, -,hlen,hxs,hf⟩:=DataW.trod_struct Tryz.underlying24 hf1
   match xs,hxs with
   | [x0,x1,x2,x3],_ =>
     have f0 : DataW.trod enc Tryz.prog w base spare held n' 3 [c0] = some x0:=by
      have h9:=hf 0 _ rfl
      simpa [cI,cCs] using h9
     have f1 : DataW.trod enc Tryz.prog w base spare held n' 3 [c1] = some x1:=by
      have h9:=hf 1 _ rfl
      simpa [cI,cCs] using h9
     have f2 : DataW.trod enc Tryz.prog w base spare held n' 3 [c2] = some x2:=by
      have h9:=hf 2 _ rfl
      simpa [cI,cCs] using h9
     have f3 : DataW.trod enc Tryz.prog w base spare held n' 22 [c3] = some x3:=by
      have h9:=hf 3 _ rfl
      simpa [cI,cCs] using h9
     obtain ⟨y0,rfl, -⟩:=int_cs f0
     obtain ⟨y1,rfl, -⟩:=int_cs f1
     obtain ⟨y2,rfl, -⟩:=int_cs f2
     obtain ⟨a,m,l,rfl,hC⟩:=cons_cs f3
     exact ⟨⟨y0,y1,y2,l⟩,_,rfl,hC⟩
end
end Go.Proofs.YtgblfjccccdidaaGreat
end
section
namespace Go.Proofs.YtgblfjccccdidaaGreat
open Go.ChangeShapes Go.WideShapes Go.ChangeAt Go.RowKit Go.Dfl Go.And
theorem own : ownKnob Tryz.prog.godebug = none:=by kernel_rfl
theorem laidOut : laidOutB Tryz.prog = true:=by kernel_rfl
theorem winB_refl (a : List (List Int)) : winB a a = true:=(winB_iff _ _).2 ⟨rfl,fun _ _ _ h => h⟩
structure SysB (sb : Nat) (s : Sy) (cv : Value) (Z : World) : Prop where
 box : BoxS Z sb s cv
 cons : ConsIn Z cv s.cons
theorem SysB.below {sb : Nat} {s : Sy} {cv : Value} {Z Z' : World} (h : SysB sb s cv Z) (hb : Below Z.heap.size Z Z') : SysB sb s cv Z':=⟨h.box.grown (grownBy_below hb) (by simp),h.cons.below hb⟩
structure PtsB (pb : Nat) (u v : Value) (a b : List (List Int)) (Z : World) : Prop where
 p0 : Z.cell? ⟨pb,0,none⟩ = some u
 p1 : Z.cell? ⟨pb,1,none⟩ = some v
 pts : PtsIn Z u v a b
theorem PtsB.below {pb : Nat} {u v : Value} {a b : List (List Int)} {Z Z' : World} (h : PtsB pb u v a b Z) (hb : Below Z.heap.size Z Z') : PtsB pb u v a b Z':=⟨(grownBy_below hb).cell h.p0 (by simp),(grownBy_below hb).cell h.p1 (by simp),h.pts.below hb⟩
theorem PtsB.new {Z : World} {u v : Value} {a b : List (List Int)} (h : PtsIn Z u v a b) (t : TypeId) : PtsB Z.heap.size u v a b (Z.alloc (.cells #[u,v] t)):=by
 have hc:=cells_new (W:=Z) (cs:=[u,v]) (t:=t) rfl
 exact ⟨hc 0 _ rfl,hc 1 _ rfl,h.below ((Below.refl _ _).alloc (Nat.le_refl _) _)⟩
theorem SysB.new {Z : World} {s : Sy} {cv : Value} (h : ConsIn Z cv s.cons) (t : TypeId) : SysB Z.heap.size s cv (Z.alloc (.cells #[.int .i64 s.vars,.int .i64 s.sites,.int .i64 s.fields,cv] t)) :=
 ⟨BoxS.new _ _ _ _,h.below ((Below.refl _ _).alloc (Nat.le_refl _) _)⟩
theorem calls_gen {P : Program} {f : FuncId} {args : Array Value} {w : World} {Q : Ending→World→Prop} (p : World→Prop) (hw : p w) (h : ∀ W,p W→Calls P f args W Q) : Calls P f args w Q:=h w hw
def TruePost (w : World) (e : Ending) (w' : World) : Prop:=e = .returned (.bool true)∧Below w.heap.size w w'
end Go.Proofs.YtgblfjccccdidaaGreat
end
section
namespace Go.Proofs.YtgblfjccccdidaaGreat
open Go.ChangeShapes Go.WideShapes Go.ChangeAt Go.RowKit Go.Dfl Go.Clp Go.Tj
open Go.And (R Sy Vld Sm chkCode chkCode_ok Syst Pts pts_shut pts_bound ClosedP subB_iff subB ascB)
theorem off_le (N : Nat) (hd : List Int) : offH N hd ≤ N:=by
 unfold offH
 exact Nat.le_trans (List.length_filter_le _ _) (by simp)
def SmlP (s : Sy) : Prop:=ShortP s∧s.vars ≤ 24∧s.sites ≤ 6∧s.fields ≤ 3
theorem SmlP.sm {s : Sy} (h : SmlP s) : Sm s:=⟨by have:=h.2.1; omega,by have:=h.2.2.1; omega,by have:=h.2.2.2; omega,by have:=h.1.1; omega⟩
set_option maxHeartbeats 1600000 in
theorem rSml_any (s : Sy) (cv : Value) (W : World) (hc : ConsIn W cv s.cons) :
  Calls Tryz.prog 16 #[SysV s cv] W (Tell (SmlP s) W):=by
 obtain ⟨ca,cc,rfl, -⟩:=hc.out
 have hb0 : Below W.heap.size W _:=(Below.refl W.heap.size W).alloc (Nat.le_refl _) (.cells #[.int .i64 s.vars,.int .i64 s.sites,.int .i64 s.fields,.slice ca s.cons.length cc] 24)
 have hbs:=BoxS.new W s (.slice ca s.cons.length cc) 24
 have HC:=Lib.hid (And.intro hc (And.intro hb0 hbs))
 clear hc hb0 hbs
 unfold SysV
 go_enter Tryz.func16,Tryz.ntmps16
 go_wp2_with fail
 refine (Short_any s (.slice ca s.cons.length cc) _ (HC.out.1.below HC.out.2.1)).mono ?_
 rintro e W1 ⟨b,rfl,hb,q1⟩
 have H1:=Lib.hid (And.intro hb (HC.out.2.1.trans (q1.mono HC.out.2.1.size)))
 obtain ⟨d0,d1,d2,d3⟩:=HC.out.2.2.grown (grownBy_below q1) (by simp)
 clear hb q1
 cases b
 ·go_wp2_with fail
  go_ret
  exact ⟨false,rfl,⟨fun h => absurd h Bool.false_ne_true,fun h => absurd (H1.out.1.2 h.1) Bool.false_ne_true⟩,H1.out.2⟩
 ·have hsh:=H1.out.1.1 rfl
  have HS:=Lib.hid hsh
  clear hsh
  by_cases h1 : s.vars ≤ 24
  ·by_cases h2 : s.sites ≤ 6
   ·by_cases h3 : s.fields ≤ 3
    ·go_wp2_with fail
     go_ret
     exact ⟨true,by simp,⟨fun _ => ⟨HS.out,h1,h2,h3⟩,fun _ => rfl⟩,H1.out.2⟩
    ·go_wp2_with fail
     go_ret
     exact ⟨false,by simp; omega,⟨fun h => absurd h Bool.false_ne_true,fun h => by have:=h.2.2.2; omega⟩,H1.out.2⟩
   ·go_wp2_with fail
    go_ret
    exact ⟨false,by first | rfl | (simp; omega),⟨fun h => absurd h Bool.false_ne_true,fun h => by have:=h.2.2.1; omega⟩,H1.out.2⟩
  ·go_wp2_with fail
   go_ret
   exact ⟨false,by first | rfl | (simp; omega),⟨fun h => absurd h Bool.false_ne_true,fun h => by have:=h.2.1; omega⟩,H1.out.2⟩
end Go.Proofs.YtgblfjccccdidaaGreat
end
section
namespace Go.And
open Go.Dfl (nth nth_mem mem_nth nth_eq)
theorem amB_t {x n : Int} (h : amB x n = true) : 0 ≤ x∧x < n:=by simpa [amB] using h
theorem amB_f {x n : Int} (h : amB x n = false) : x < 0 ∨ n ≤ x:=by
 have h1 : ¬ (0 ≤ x∧x < n):=fun h2 => by simp [amB,h2.1,h2.2] at h
 omega
theorem con4 {s : Sy} {c : R} (h0 : 1 ≤ c.k∧c.k ≤ 5) (h : (c.a < 0 ∨ mostOf s c ≤ c.a ∨ c.b < 0 ∨ s.vars ≤ c.b) ∨ ((c.k = 3 ∨ c.k = 4)∧(c.f < 0 ∨ s.fields ≤ c.f)) ∨ subB c.s s.sites = false) : conCode s c = 4:=by
 unfold conCode
 rw [if_neg (by omega)]
 by_cases e : c.a < 0 ∨ mostOf s c ≤ c.a ∨ c.b < 0 ∨ s.vars ≤ c.b
 ·rw [if_pos e]
 ·rw [if_neg e,if_pos (h.resolve_left e)]
theorem conRest {s : Sy} {c : R} (h0 : 1 ≤ c.k∧c.k ≤ 5) (h1 : ¬ (c.a < 0 ∨ mostOf s c ≤ c.a ∨ c.b < 0 ∨ s.vars ≤ c.b)) (h2 : (c.k = 3 ∨ c.k = 4)→¬ (c.f < 0 ∨ s.fields ≤ c.f)) (h3 : subB c.s s.sites = true) :
  conCode s c = if (c.k ≠ 3∧c.k ≠ 4∧c.f ≠ 0) ∨ (c.k ≠ 5∧0 < c.s.length) then 1 else if ascB c.s = false then 13 else 0:=by
 unfold conCode
 rw [if_neg (by omega),if_neg h1,if_neg]
 rintro (⟨h4,h5⟩ | h4)
 ·exact h2 h4 h5
 ·rw [h3] at h4; cases h4
end Go.And
namespace Go.Proofs.YtgblfjccccdidaaGreat
open Go.RowKit Go.Dfl Go.And
structure ConR (W : World) (b0 b1 : Nat) (vars sites fields k a b f : Int) (sa : Option Addr) (sc : Nat) (cs : List Int) (Z : World) : Prop where
 s0 : Z.cell? ⟨b0,0,none⟩ = some (.int .i64 vars)
 s1 : Z.cell? ⟨b0,1,none⟩ = some (.int .i64 sites)
 s2 : Z.cell? ⟨b0,2,none⟩ = some (.int .i64 fields)
 c0 : Z.cell? ⟨b1,0,none⟩ = some (.int .i64 k)
 c1 : Z.cell? ⟨b1,1,none⟩ = some (.int .i64 a)
 c2 : Z.cell? ⟨b1,2,none⟩ = some (.int .i64 b)
 c3 : Z.cell? ⟨b1,3,none⟩ = some (.int .i64 f)
 c4 : Z.cell? ⟨b1,4,none⟩ = some (.slice sa cs.length sc)
 set : Ints Z (.slice sa cs.length sc) cs
 bel : Below W.heap.size W Z
theorem ConR.new (W : World) (cv : Value) (vars sites fields k a b f : Int) (sa : Option Addr) (sc : Nat) (cs : List Int) (h : Ints W (.slice sa cs.length sc) cs) :
  ConR W W.heap.size (W.heap.size + 1) vars sites fields k a b f sa sc cs ((W.alloc (.cells #[.int .i64 vars,.int .i64 sites,.int .i64 fields,cv] 24)).alloc (.cells #[.int .i64 k,.int .i64 a,.int .i64 b,.int .i64 f,.slice sa cs.length sc] 48)):=by
 have h1:=cells_new (W:=W) (cs:=[.int .i64 vars,.int .i64 sites,.int .i64 fields,cv]) (t:=24) rfl
 have h2:=cells_new (W:=W.alloc (.cells #[.int .i64 vars,.int .i64 sites,.int .i64 fields,cv] 24)) (cs:=[.int .i64 k,.int .i64 a,.int .i64 b,.int .i64 f,.slice sa cs.length sc]) (t:=48) rfl
 rw [World.size_alloc] at h2
 have g:=grownBy_alloc (W.alloc (.cells #[.int .i64 vars,.int .i64 sites,.int .i64 fields,cv] 24)) (.cells #[.int .i64 k,.int .i64 a,.int .i64 b,.int .i64 f,.slice sa cs.length sc] 48)
 have hb : Below W.heap.size W _:=((Below.refl W.heap.size W).alloc (Nat.le_refl _) (.cells #[.int .i64 vars,.int .i64 sites,.int .i64 fields,cv] 24)).alloc (by simp) (.cells #[.int .i64 k,.int .i64 a,.int .i64 b,.int .i64 f,.slice sa cs.length sc] 48)
 exact ⟨g.cell (h1 0 _ rfl) (by simp),g.cell (h1 1 _ rfl) (by simp),g.cell (h1 2 _ rfl) (by simp),h2 0 _ rfl,h2 1 _ rfl,h2 2 _ rfl,h2 3 _ rfl,h2 4 _ rfl,h.below hb,hb⟩
set_option maxHeartbeats 6400000 in
theorem rCon_any (s : Sy) (cv : Value) (c : R) (sv : Value) (W : World) (hset : Ints W sv c.s) :
  Calls Tryz.prog 84 #[SysV s cv,.agg #[.int .i64 c.k,.int .i64 c.a,.int .i64 c.b,.int .i64 c.f,sv]] W fun e W' => e = .returned (.int .i64 (conCode s c))∧Below W.heap.size W W':=by
 obtain ⟨sa,sc,rfl,hm,hidx,hcell,hblk⟩:=hset.out1 sInt
 have HS:=Lib.hid hset
 clear hset hcell hblk
 unfold SysV
 obtain ⟨vars,sites,fields,cons⟩:=s
 obtain ⟨k,a,b,f,cs⟩:=c
 dsimp only at *
 have hbel2 : ∀ n,Below W.heap.size W (((W.alloc (.cells #[.int .i64 vars,.int .i64 sites,.int .i64 fields,cv] 24)).alloc (.cells #[.int .i64 k,.int .i64 a,.int .i64 b,.int .i64 f,.slice sa cs.length sc] 48)).drewN n):=fun n => below_drewN (((Below.refl W.heap.size W).alloc (Nat.le_refl _) _).alloc (by simp) _) n
 by_cases h1 : k < 1
 ·go_enter Tryz.func84,Tryz.ntmps84
  go_wp2_with fail
  go_ret
  exact ⟨ret_int (by unfold conCode; dsimp only; rw [if_pos (by omega)]),hbel2 0⟩
 by_cases h2 : 5 < k
 ·go_enter Tryz.func84,Tryz.ntmps84
  go_wp2_with fail
  go_ret
  exact ⟨ret_int (by unfold conCode; dsimp only; rw [if_pos (by omega)]),hbel2 0⟩
 have hk : k = 1 ∨ k = 2 ∨ k = 3 ∨ k = 4 ∨ k = 5:=by omega
 clear h1 h2 hbel2
 rcases hk with rfl | rfl | rfl | rfl | rfl
 ·go_enter Tryz.func84,Tryz.ntmps84
  go_wp2_with fail
  refine calls_gen (fun Z => ConR W W.heap.size (W.heap.size + 1) vars sites fields 1 a b f sa sc cs Z) (ConR.new W cv _ _ _ _ _ _ _ _ _ _ HS.out) ?_
  rintro Z hz
  obtain ⟨b1,hb1⟩ : ∃ b1,b1 = W.heap.size + 1:=⟨_,rfl⟩
  obtain ⟨b0,hb0⟩ : ∃ b0,b0 = W.heap.size:=⟨_,rfl⟩
  have HZ : Hid (ConR W b0 b1 vars sites fields 1 a b f sa sc cs Z):=by rw [hb0,hb1]; exact hz
  rw [← hb1, ← hb0]
  clear hz hb1 hb0 HS
  obtain ⟨s0,s1,s2,c0,c1,c2,c3,c4, -, -⟩:=HZ.out
  refine (rAmong_any a sites Z).mono ?_
  rintro e W1 ⟨rfl,n1,rfl⟩
  have hcl : ∀ i,i < cs.length→Z.cell? ⟨blk sa,ofs sa + i,none⟩ = some (.int .i64 (nth cs i)):=by
   obtain ⟨a9,c9,e9, -, -,h9, -⟩:=HZ.out.set.out1 sInt
   simp only [Value.slice.injEq] at e9
   obtain ⟨rfl, -,rfl⟩:=e9
   exact h9
  have hmost : mostOf ⟨vars,sites,fields,cons⟩ ⟨1,a,b,f,cs⟩ = sites:=by simp [mostOf]
  have HM:=Lib.hid hmost
  clear hmost
  cases ha : amB a sites
  ·have HA:=Lib.hid (amB_f ha)
   clear ha
   go_wp2_with fail
   go_ret
   exact ⟨ret_int (con4 (by dsimp only; omega) (.inl (by rw [HM.out]; have:=HA.out; dsimp only; omega))).symm,by first | exact below_drewN HZ.out.bel _ | exact below_drewN (below_drewN HZ.out.bel _) _⟩
  have HA:=Lib.hid (amB_t ha)
  clear ha
  go_wp2_with fail
  refine (rAmong_any b vars _).mono ?_
  rintro e W2 ⟨rfl,n2,rfl⟩
  cases hb : amB b vars
  ·have HBB:=Lib.hid (amB_f hb)
   clear hb
   go_wp2_with fail
   go_ret
   exact ⟨ret_int (con4 (by dsimp only; omega) (.inl (by have:=HBB.out; dsimp only; omega))).symm,by first | exact below_drewN HZ.out.bel _ | exact below_drewN (below_drewN HZ.out.bel _) _⟩
  have HBB:=Lib.hid (amB_t hb)
  clear hb
  go_wp2_with fail
  have HF : Hid ((1 : Int) ≠ 3∧(1 : Int) ≠ 4):=Lib.hid (by omega)
  go_loopw [7] (fun x wr => ∃ j : Nat,j ≤ cs.length∧x = .int .i64 j∧Qt Z wr∧Hid (∀ i,i < j→0 ≤ nth cs i∧nth cs i < sites)) (fun x _ => cs.length - (intOf x).toNat)
  case atStart => exact ⟨0,by omega,rfl,by exact (by first | exact Qt.refl _ | exact Qt.drewN _ _ | exact (Qt.drewN _ _).trans (Qt.drewN _ _) | exact ((Qt.drewN _ _).trans (Qt.drewN _ _)).trans (Qt.drewN _ _) | exact Qt.drew _ | exact (Qt.drewN _ _).trans (Qt.drew _)),fun i hi => by omega⟩
  case round =>
   obtain ⟨j,hj,rfl,⟨nw,rfl⟩,hch⟩:=hrel
   by_cases hlt : j < cs.length
   ·have hck:=hcl j hlt
    have hcall : ∀ n,Calls Tryz.prog 115 #[.int .i64 (nth cs j),.int .i64 sites] (Z.drewN n) fun e w' => e = .returned (.bool (amB (nth cs j) sites))∧Qt (Z.drewN n) w':=fun n => rAmong_any _ _ _
    obtain ⟨d,hd⟩ : ∃ d,d = amB (nth cs j) sites:=⟨_,rfl⟩
    rw [← hd] at hcall
    have HCall:=Lib.hid hcall
    clear hcall
    cases d
    ·have HD:=Lib.hid (amB_f hd.symm)
     clear hd
     go_wp2_with fail
     go_quiet ((go_at_call 115; exact Qt.quiet2 (HCall.out _)))
     go_wp2_with fail
     go_ret
     exact ⟨ret_int (con4 (by dsimp only; omega) (.inr (.inr (by rw [Bool.eq_false_iff]; intro hh; have h1:=(subB_iff _ _).1 hh j hlt; have:=HD.out; dsimp only at h1; omega)))).symm,by first | exact below_drewN HZ.out.bel _ | exact below_drewN (below_drewN HZ.out.bel _) _⟩
    ·have HD:=Lib.hid (amB_t hd.symm)
     clear hd
     go_wp2_with fail
     go_quiet ((go_at_call 115; exact Qt.quiet2 (HCall.out _)))
     go_wp2_with fail
     go_roundw
     case rel => exact ⟨j + 1,by omega,by go_num,(by first | exact Qt.refl _ | exact Qt.drewN _ _ | exact (Qt.drewN _ _).trans (Qt.drewN _ _) | exact ((Qt.drewN _ _).trans (Qt.drewN _ _)).trans (Qt.drewN _ _) | exact Qt.drew _ | exact (Qt.drewN _ _).trans (Qt.drew _)),fun i hi => by
      by_cases e : i = j
      ·subst e; exact HD.out
      ·exact hch.out i (by omega)⟩
     case measure => simp [intOf]; omega
   ·obtain rfl : j = cs.length:=by omega
    have hrest:=conRest (s:=⟨vars,sites,fields,cons⟩) (c:=⟨1,a,b,f,cs⟩) (by dsimp only; omega) (by rw [HM.out]; have:=HA.out; have:=HBB.out; dsimp only; omega) (by have:=HF.out; dsimp only at *; omega) ((subB_iff _ _).2 hch.out)
    have HRest:=Lib.hid hrest
    clear hrest
    clear hch
    go_wp2_with fail
    all_goals first
     | (go_ret
        exact ⟨ret_int (by rw [HRest.out]; (try dsimp only); rw [if_pos (by omega)]),by first | exact below_drewN HZ.out.bel _ | exact below_drewN (below_drewN HZ.out.bel _) _⟩)
     | (go_ret
        have hf0 : f = 0:=by assumption
        subst hf0
        exact ⟨ret_int (by rw [HRest.out]; (try dsimp only); rw [if_pos (by omega)]),by first | exact below_drewN HZ.out.bel _ | exact below_drewN (below_drewN HZ.out.bel _) _⟩)
     | (skip
        go_loopw [8] (fun x wr => ∃ j : Nat,1 ≤ j∧x = .int .i64 j∧Qt Z wr∧(j ≤ cs.length ∨ j = 1)∧Hid (∀ i,i + 1 < j→nth cs i < nth cs (i + 1))) (fun x _ => cs.length + 1 - (intOf x).toNat)
        case atStart => exact ⟨1,by omega,rfl,by exact (by first | exact Qt.refl _ | exact Qt.drewN _ _ | exact (Qt.drewN _ _).trans (Qt.drewN _ _) | exact ((Qt.drewN _ _).trans (Qt.drewN _ _)).trans (Qt.drewN _ _) | exact Qt.drew _ | exact (Qt.drewN _ _).trans (Qt.drew _)),by omega,fun i hi => by omega⟩
        case round =>
         obtain ⟨j,hj,rfl,⟨nw,rfl⟩,hj2,hch⟩:=hrel
         by_cases hlt : j < cs.length
         ·first
           | (exfalso; omega)
           | (skip
              obtain ⟨m,rfl⟩ : ∃ m,j = m + 1:=⟨j - 1,by omega⟩
              have hck:=hcl (m + 1) hlt
              have hck2:=hcl m (by omega)
              have hw : IntKind.i64.wrap (m : Int) = m:=IntWalk.i64_in _ (by omega)
              have hm1 : (m : Int) < (cs.length : Int):=by omega
              have hm2 : (m : Int) + 1 < (cs.length : Int):=by omega
              have hm3 : (0 : Int) ≤ (m : Int):=by omega
              have hm4 : (0 : Int) ≤ (m : Int) + 1:=by omega
              have hm5 : ((m : Int) + 1).toNat = m + 1:=by omega
              by_cases h1 : nth cs (m + 1) ≤ nth cs m
              ·have hd : decide (nth cs (m + 1) ≤ nth cs m) = true:=by simpa using h1
               go_wp2_with fail
               go_quiet (fail)
               go_wp2_with fail
               go_ret
               exact ⟨ret_int (by rw [HRest.out]; (try dsimp only); rw [if_neg (by omega),if_pos (by rw [Bool.eq_false_iff]; intro hh; have:=(ascB_iff _).1 hh m hlt; omega)]),by first | exact below_drewN HZ.out.bel _ | exact below_drewN (below_drewN HZ.out.bel _) _⟩
              ·have hd : decide (nth cs (m + 1) ≤ nth cs m) = false:=by simpa using h1
               go_wp2_with fail
               go_quiet (fail)
               go_wp2_with fail
               go_roundw
               case rel => exact ⟨m + 2,by omega,by go_num,(by first | exact Qt.refl _ | exact Qt.drewN _ _ | exact (Qt.drewN _ _).trans (Qt.drewN _ _) | exact ((Qt.drewN _ _).trans (Qt.drewN _ _)).trans (Qt.drewN _ _) | exact Qt.drew _ | exact (Qt.drewN _ _).trans (Qt.drew _)),by omega,fun i hi => by
                by_cases e : i = m
                ·subst e; omega
                ·exact hch.out i (by omega)⟩
               case measure => simp [intOf]; omega
              )
         ·have hasc : ascB cs = true:=(ascB_iff _).2 fun i hi => hch.out i (by omega)
          have HAsc:=Lib.hid hasc
          clear hasc
          go_wp2_with fail
          go_ret
          exact ⟨ret_int (by rw [HRest.out]; (try dsimp only); rw [if_neg (by omega),if_neg (by rw [HAsc.out]; simp)]),below_drewN HZ.out.bel _⟩
        )
 ·go_enter Tryz.func84,Tryz.ntmps84
  go_wp2_with fail
  refine calls_gen (fun Z => ConR W W.heap.size (W.heap.size + 1) vars sites fields 2 a b f sa sc cs Z) (ConR.new W cv _ _ _ _ _ _ _ _ _ _ HS.out) ?_
  rintro Z hz
  obtain ⟨b1,hb1⟩ : ∃ b1,b1 = W.heap.size + 1:=⟨_,rfl⟩
  obtain ⟨b0,hb0⟩ : ∃ b0,b0 = W.heap.size:=⟨_,rfl⟩
  have HZ : Hid (ConR W b0 b1 vars sites fields 2 a b f sa sc cs Z):=by rw [hb0,hb1]; exact hz
  rw [← hb1, ← hb0]
  clear hz hb1 hb0 HS
  obtain ⟨s0,s1,s2,c0,c1,c2,c3,c4, -, -⟩:=HZ.out
  refine (rAmong_any a vars Z).mono ?_
  rintro e W1 ⟨rfl,n1,rfl⟩
  have hcl : ∀ i,i < cs.length→Z.cell? ⟨blk sa,ofs sa + i,none⟩ = some (.int .i64 (nth cs i)):=by
   obtain ⟨a9,c9,e9, -, -,h9, -⟩:=HZ.out.set.out1 sInt
   simp only [Value.slice.injEq] at e9
   obtain ⟨rfl, -,rfl⟩:=e9
   exact h9
  have hmost : mostOf ⟨vars,sites,fields,cons⟩ ⟨2,a,b,f,cs⟩ = vars:=by simp [mostOf]
  have HM:=Lib.hid hmost
  clear hmost
  cases ha : amB a vars
  ·have HA:=Lib.hid (amB_f ha)
   clear ha
   go_wp2_with fail
   go_ret
   exact ⟨ret_int (con4 (by dsimp only; omega) (.inl (by rw [HM.out]; have:=HA.out; dsimp only; omega))).symm,by first | exact below_drewN HZ.out.bel _ | exact below_drewN (below_drewN HZ.out.bel _) _⟩
  have HA:=Lib.hid (amB_t ha)
  clear ha
  go_wp2_with fail
  refine (rAmong_any b vars _).mono ?_
  rintro e W2 ⟨rfl,n2,rfl⟩
  cases hb : amB b vars
  ·have HBB:=Lib.hid (amB_f hb)
   clear hb
   go_wp2_with fail
   go_ret
   exact ⟨ret_int (con4 (by dsimp only; omega) (.inl (by have:=HBB.out; dsimp only; omega))).symm,by first | exact below_drewN HZ.out.bel _ | exact below_drewN (below_drewN HZ.out.bel _) _⟩
  have HBB:=Lib.hid (amB_t hb)
  clear hb
  go_wp2_with fail
  have HF : Hid ((2 : Int) ≠ 3∧(2 : Int) ≠ 4):=Lib.hid (by omega)
  go_loopw [7] (fun x wr => ∃ j : Nat,j ≤ cs.length∧x = .int .i64 j∧Qt Z wr∧Hid (∀ i,i < j→0 ≤ nth cs i∧nth cs i < sites)) (fun x _ => cs.length - (intOf x).toNat)
  case atStart => exact ⟨0,by omega,rfl,by exact (by first | exact Qt.refl _ | exact Qt.drewN _ _ | exact (Qt.drewN _ _).trans (Qt.drewN _ _) | exact ((Qt.drewN _ _).trans (Qt.drewN _ _)).trans (Qt.drewN _ _) | exact Qt.drew _ | exact (Qt.drewN _ _).trans (Qt.drew _)),fun i hi => by omega⟩
  case round =>
   obtain ⟨j,hj,rfl,⟨nw,rfl⟩,hch⟩:=hrel
   by_cases hlt : j < cs.length
   ·have hck:=hcl j hlt
    have hcall : ∀ n,Calls Tryz.prog 115 #[.int .i64 (nth cs j),.int .i64 sites] (Z.drewN n) fun e w' => e = .returned (.bool (amB (nth cs j) sites))∧Qt (Z.drewN n) w':=fun n => rAmong_any _ _ _
    obtain ⟨d,hd⟩ : ∃ d,d = amB (nth cs j) sites:=⟨_,rfl⟩
    rw [← hd] at hcall
    have HCall:=Lib.hid hcall
    clear hcall
    cases d
    ·have HD:=Lib.hid (amB_f hd.symm)
     clear hd
     go_wp2_with fail
     go_quiet ((go_at_call 115; exact Qt.quiet2 (HCall.out _)))
     go_wp2_with fail
     go_ret
     exact ⟨ret_int (con4 (by dsimp only; omega) (.inr (.inr (by rw [Bool.eq_false_iff]; intro hh; have h1:=(subB_iff _ _).1 hh j hlt; have:=HD.out; dsimp only at h1; omega)))).symm,by first | exact below_drewN HZ.out.bel _ | exact below_drewN (below_drewN HZ.out.bel _) _⟩
    ·have HD:=Lib.hid (amB_t hd.symm)
     clear hd
     go_wp2_with fail
     go_quiet ((go_at_call 115; exact Qt.quiet2 (HCall.out _)))
     go_wp2_with fail
     go_roundw
     case rel => exact ⟨j + 1,by omega,by go_num,(by first | exact Qt.refl _ | exact Qt.drewN _ _ | exact (Qt.drewN _ _).trans (Qt.drewN _ _) | exact ((Qt.drewN _ _).trans (Qt.drewN _ _)).trans (Qt.drewN _ _) | exact Qt.drew _ | exact (Qt.drewN _ _).trans (Qt.drew _)),fun i hi => by
      by_cases e : i = j
      ·subst e; exact HD.out
      ·exact hch.out i (by omega)⟩
     case measure => simp [intOf]; omega
   ·obtain rfl : j = cs.length:=by omega
    have hrest:=conRest (s:=⟨vars,sites,fields,cons⟩) (c:=⟨2,a,b,f,cs⟩) (by dsimp only; omega) (by rw [HM.out]; have:=HA.out; have:=HBB.out; dsimp only; omega) (by have:=HF.out; dsimp only at *; omega) ((subB_iff _ _).2 hch.out)
    have HRest:=Lib.hid hrest
    clear hrest
    clear hch
    go_wp2_with fail
    all_goals first
     | (go_ret
        exact ⟨ret_int (by rw [HRest.out]; (try dsimp only); rw [if_pos (by omega)]),by first | exact below_drewN HZ.out.bel _ | exact below_drewN (below_drewN HZ.out.bel _) _⟩)
     | (go_ret
        have hf0 : f = 0:=by assumption
        subst hf0
        exact ⟨ret_int (by rw [HRest.out]; (try dsimp only); rw [if_pos (by omega)]),by first | exact below_drewN HZ.out.bel _ | exact below_drewN (below_drewN HZ.out.bel _) _⟩)
     | (skip
        go_loopw [8] (fun x wr => ∃ j : Nat,1 ≤ j∧x = .int .i64 j∧Qt Z wr∧(j ≤ cs.length ∨ j = 1)∧Hid (∀ i,i + 1 < j→nth cs i < nth cs (i + 1))) (fun x _ => cs.length + 1 - (intOf x).toNat)
        case atStart => exact ⟨1,by omega,rfl,by exact (by first | exact Qt.refl _ | exact Qt.drewN _ _ | exact (Qt.drewN _ _).trans (Qt.drewN _ _) | exact ((Qt.drewN _ _).trans (Qt.drewN _ _)).trans (Qt.drewN _ _) | exact Qt.drew _ | exact (Qt.drewN _ _).trans (Qt.drew _)),by omega,fun i hi => by omega⟩
        case round =>
         obtain ⟨j,hj,rfl,⟨nw,rfl⟩,hj2,hch⟩:=hrel
         by_cases hlt : j < cs.length
         ·first
           | (exfalso; omega)
           | (skip
              obtain ⟨m,rfl⟩ : ∃ m,j = m + 1:=⟨j - 1,by omega⟩
              have hck:=hcl (m + 1) hlt
              have hck2:=hcl m (by omega)
              have hw : IntKind.i64.wrap (m : Int) = m:=IntWalk.i64_in _ (by omega)
              have hm1 : (m : Int) < (cs.length : Int):=by omega
              have hm2 : (m : Int) + 1 < (cs.length : Int):=by omega
              have hm3 : (0 : Int) ≤ (m : Int):=by omega
              have hm4 : (0 : Int) ≤ (m : Int) + 1:=by omega
              have hm5 : ((m : Int) + 1).toNat = m + 1:=by omega
              by_cases h1 : nth cs (m + 1) ≤ nth cs m
              ·have hd : decide (nth cs (m + 1) ≤ nth cs m) = true:=by simpa using h1
               go_wp2_with fail
               go_quiet (fail)
               go_wp2_with fail
               go_ret
               exact ⟨ret_int (by rw [HRest.out]; (try dsimp only); rw [if_neg (by omega),if_pos (by rw [Bool.eq_false_iff]; intro hh; have:=(ascB_iff _).1 hh m hlt; omega)]),by first | exact below_drewN HZ.out.bel _ | exact below_drewN (below_drewN HZ.out.bel _) _⟩
              ·have hd : decide (nth cs (m + 1) ≤ nth cs m) = false:=by simpa using h1
               go_wp2_with fail
               go_quiet (fail)
               go_wp2_with fail
               go_roundw
               case rel => exact ⟨m + 2,by omega,by go_num,(by first | exact Qt.refl _ | exact Qt.drewN _ _ | exact (Qt.drewN _ _).trans (Qt.drewN _ _) | exact ((Qt.drewN _ _).trans (Qt.drewN _ _)).trans (Qt.drewN _ _) | exact Qt.drew _ | exact (Qt.drewN _ _).trans (Qt.drew _)),by omega,fun i hi => by
                by_cases e : i = m
                ·subst e; omega
                ·exact hch.out i (by omega)⟩
               case measure => simp [intOf]; omega
              )
         ·have hasc : ascB cs = true:=(ascB_iff _).2 fun i hi => hch.out i (by omega)
          have HAsc:=Lib.hid hasc
          clear hasc
          go_wp2_with fail
          go_ret
          exact ⟨ret_int (by rw [HRest.out]; (try dsimp only); rw [if_neg (by omega),if_neg (by rw [HAsc.out]; simp)]),below_drewN HZ.out.bel _⟩
        )
 ·go_enter Tryz.func84,Tryz.ntmps84
  go_wp2_with fail
  refine calls_gen (fun Z => ConR W W.heap.size (W.heap.size + 1) vars sites fields 3 a b f sa sc cs Z) (ConR.new W cv _ _ _ _ _ _ _ _ _ _ HS.out) ?_
  rintro Z hz
  obtain ⟨b1,hb1⟩ : ∃ b1,b1 = W.heap.size + 1:=⟨_,rfl⟩
  obtain ⟨b0,hb0⟩ : ∃ b0,b0 = W.heap.size:=⟨_,rfl⟩
  have HZ : Hid (ConR W b0 b1 vars sites fields 3 a b f sa sc cs Z):=by rw [hb0,hb1]; exact hz
  rw [← hb1, ← hb0]
  clear hz hb1 hb0 HS
  obtain ⟨s0,s1,s2,c0,c1,c2,c3,c4, -, -⟩:=HZ.out
  refine (rAmong_any a vars Z).mono ?_
  rintro e W1 ⟨rfl,n1,rfl⟩
  have hcl : ∀ i,i < cs.length→Z.cell? ⟨blk sa,ofs sa + i,none⟩ = some (.int .i64 (nth cs i)):=by
   obtain ⟨a9,c9,e9, -, -,h9, -⟩:=HZ.out.set.out1 sInt
   simp only [Value.slice.injEq] at e9
   obtain ⟨rfl, -,rfl⟩:=e9
   exact h9
  have hmost : mostOf ⟨vars,sites,fields,cons⟩ ⟨3,a,b,f,cs⟩ = vars:=by simp [mostOf]
  have HM:=Lib.hid hmost
  clear hmost
  cases ha : amB a vars
  ·have HA:=Lib.hid (amB_f ha)
   clear ha
   go_wp2_with fail
   go_ret
   exact ⟨ret_int (con4 (by dsimp only; omega) (.inl (by rw [HM.out]; have:=HA.out; dsimp only; omega))).symm,by first | exact below_drewN HZ.out.bel _ | exact below_drewN (below_drewN HZ.out.bel _) _⟩
  have HA:=Lib.hid (amB_t ha)
  clear ha
  go_wp2_with fail
  refine (rAmong_any b vars _).mono ?_
  rintro e W2 ⟨rfl,n2,rfl⟩
  cases hb : amB b vars
  ·have HBB:=Lib.hid (amB_f hb)
   clear hb
   go_wp2_with fail
   go_ret
   exact ⟨ret_int (con4 (by dsimp only; omega) (.inl (by have:=HBB.out; dsimp only; omega))).symm,by first | exact below_drewN HZ.out.bel _ | exact below_drewN (below_drewN HZ.out.bel _) _⟩
  have HBB:=Lib.hid (amB_t hb)
  clear hb
  go_wp2_with fail
  refine (rAmong_any f fields _).mono ?_
  rintro e W3 ⟨rfl,n3,rfl⟩
  cases hf : amB f fields
  ·have HF:=Lib.hid (amB_f hf)
   clear hf
   go_wp2_with fail
   go_ret
   exact ⟨ret_int (con4 (by dsimp only; omega) (.inr (.inl ⟨by dsimp only; omega,by have:=HF.out; dsimp only; omega⟩))).symm,by first | exact below_drewN HZ.out.bel _ | exact below_drewN (below_drewN HZ.out.bel _) _⟩
  have HF:=Lib.hid (amB_t hf)
  clear hf
  go_wp2_with fail
  go_loopw [7] (fun x wr => ∃ j : Nat,j ≤ cs.length∧x = .int .i64 j∧Qt Z wr∧Hid (∀ i,i < j→0 ≤ nth cs i∧nth cs i < sites)) (fun x _ => cs.length - (intOf x).toNat)
  case atStart => exact ⟨0,by omega,rfl,by exact (by first | exact Qt.refl _ | exact Qt.drewN _ _ | exact (Qt.drewN _ _).trans (Qt.drewN _ _) | exact ((Qt.drewN _ _).trans (Qt.drewN _ _)).trans (Qt.drewN _ _) | exact Qt.drew _ | exact (Qt.drewN _ _).trans (Qt.drew _)),fun i hi => by omega⟩
  case round =>
   obtain ⟨j,hj,rfl,⟨nw,rfl⟩,hch⟩:=hrel
   by_cases hlt : j < cs.length
   ·have hck:=hcl j hlt
    have hcall : ∀ n,Calls Tryz.prog 115 #[.int .i64 (nth cs j),.int .i64 sites] (Z.drewN n) fun e w' => e = .returned (.bool (amB (nth cs j) sites))∧Qt (Z.drewN n) w':=fun n => rAmong_any _ _ _
    obtain ⟨d,hd⟩ : ∃ d,d = amB (nth cs j) sites:=⟨_,rfl⟩
    rw [← hd] at hcall
    have HCall:=Lib.hid hcall
    clear hcall
    cases d
    ·have HD:=Lib.hid (amB_f hd.symm)
     clear hd
     go_wp2_with fail
     go_quiet ((go_at_call 115; exact Qt.quiet2 (HCall.out _)))
     go_wp2_with fail
     go_ret
     exact ⟨ret_int (con4 (by dsimp only; omega) (.inr (.inr (by rw [Bool.eq_false_iff]; intro hh; have h1:=(subB_iff _ _).1 hh j hlt; have:=HD.out; dsimp only at h1; omega)))).symm,by first | exact below_drewN HZ.out.bel _ | exact below_drewN (below_drewN HZ.out.bel _) _⟩
    ·have HD:=Lib.hid (amB_t hd.symm)
     clear hd
     go_wp2_with fail
     go_quiet ((go_at_call 115; exact Qt.quiet2 (HCall.out _)))
     go_wp2_with fail
     go_roundw
     case rel => exact ⟨j + 1,by omega,by go_num,(by first | exact Qt.refl _ | exact Qt.drewN _ _ | exact (Qt.drewN _ _).trans (Qt.drewN _ _) | exact ((Qt.drewN _ _).trans (Qt.drewN _ _)).trans (Qt.drewN _ _) | exact Qt.drew _ | exact (Qt.drewN _ _).trans (Qt.drew _)),fun i hi => by
      by_cases e : i = j
      ·subst e; exact HD.out
      ·exact hch.out i (by omega)⟩
     case measure => simp [intOf]; omega
   ·obtain rfl : j = cs.length:=by omega
    have hrest:=conRest (s:=⟨vars,sites,fields,cons⟩) (c:=⟨3,a,b,f,cs⟩) (by dsimp only; omega) (by rw [HM.out]; have:=HA.out; have:=HBB.out; dsimp only; omega) (by have:=HF.out; dsimp only at *; omega) ((subB_iff _ _).2 hch.out)
    have HRest:=Lib.hid hrest
    clear hrest
    clear hch
    go_wp2_with fail
    all_goals first
     | (go_ret
        exact ⟨ret_int (by rw [HRest.out]; (try dsimp only); rw [if_pos (by omega)]),by first | exact below_drewN HZ.out.bel _ | exact below_drewN (below_drewN HZ.out.bel _) _⟩)
     | (go_ret
        have hf0 : f = 0:=by assumption
        subst hf0
        exact ⟨ret_int (by rw [HRest.out]; (try dsimp only); rw [if_pos (by omega)]),by first | exact below_drewN HZ.out.bel _ | exact below_drewN (below_drewN HZ.out.bel _) _⟩)
     | (skip
        go_loopw [8] (fun x wr => ∃ j : Nat,1 ≤ j∧x = .int .i64 j∧Qt Z wr∧(j ≤ cs.length ∨ j = 1)∧Hid (∀ i,i + 1 < j→nth cs i < nth cs (i + 1))) (fun x _ => cs.length + 1 - (intOf x).toNat)
        case atStart => exact ⟨1,by omega,rfl,by exact (by first | exact Qt.refl _ | exact Qt.drewN _ _ | exact (Qt.drewN _ _).trans (Qt.drewN _ _) | exact ((Qt.drewN _ _).trans (Qt.drewN _ _)).trans (Qt.drewN _ _) | exact Qt.drew _ | exact (Qt.drewN _ _).trans (Qt.drew _)),by omega,fun i hi => by omega⟩
        case round =>
         obtain ⟨j,hj,rfl,⟨nw,rfl⟩,hj2,hch⟩:=hrel
         by_cases hlt : j < cs.length
         ·first
           | (exfalso; omega)
           | (skip
              obtain ⟨m,rfl⟩ : ∃ m,j = m + 1:=⟨j - 1,by omega⟩
              have hck:=hcl (m + 1) hlt
              have hck2:=hcl m (by omega)
              have hw : IntKind.i64.wrap (m : Int) = m:=IntWalk.i64_in _ (by omega)
              have hm1 : (m : Int) < (cs.length : Int):=by omega
              have hm2 : (m : Int) + 1 < (cs.length : Int):=by omega
              have hm3 : (0 : Int) ≤ (m : Int):=by omega
              have hm4 : (0 : Int) ≤ (m : Int) + 1:=by omega
              have hm5 : ((m : Int) + 1).toNat = m + 1:=by omega
              by_cases h1 : nth cs (m + 1) ≤ nth cs m
              ·have hd : decide (nth cs (m + 1) ≤ nth cs m) = true:=by simpa using h1
               go_wp2_with fail
               go_quiet (fail)
               go_wp2_with fail
               go_ret
               exact ⟨ret_int (by rw [HRest.out]; (try dsimp only); rw [if_neg (by omega),if_pos (by rw [Bool.eq_false_iff]; intro hh; have:=(ascB_iff _).1 hh m hlt; omega)]),by first | exact below_drewN HZ.out.bel _ | exact below_drewN (below_drewN HZ.out.bel _) _⟩
              ·have hd : decide (nth cs (m + 1) ≤ nth cs m) = false:=by simpa using h1
               go_wp2_with fail
               go_quiet (fail)
               go_wp2_with fail
               go_roundw
               case rel => exact ⟨m + 2,by omega,by go_num,(by first | exact Qt.refl _ | exact Qt.drewN _ _ | exact (Qt.drewN _ _).trans (Qt.drewN _ _) | exact ((Qt.drewN _ _).trans (Qt.drewN _ _)).trans (Qt.drewN _ _) | exact Qt.drew _ | exact (Qt.drewN _ _).trans (Qt.drew _)),by omega,fun i hi => by
                by_cases e : i = m
                ·subst e; omega
                ·exact hch.out i (by omega)⟩
               case measure => simp [intOf]; omega
              )
         ·have hasc : ascB cs = true:=(ascB_iff _).2 fun i hi => hch.out i (by omega)
          have HAsc:=Lib.hid hasc
          clear hasc
          go_wp2_with fail
          go_ret
          exact ⟨ret_int (by rw [HRest.out]; (try dsimp only); rw [if_neg (by omega),if_neg (by rw [HAsc.out]; simp)]),below_drewN HZ.out.bel _⟩
        )
 ·go_enter Tryz.func84,Tryz.ntmps84
  go_wp2_with fail
  refine calls_gen (fun Z => ConR W W.heap.size (W.heap.size + 1) vars sites fields 4 a b f sa sc cs Z) (ConR.new W cv _ _ _ _ _ _ _ _ _ _ HS.out) ?_
  rintro Z hz
  obtain ⟨b1,hb1⟩ : ∃ b1,b1 = W.heap.size + 1:=⟨_,rfl⟩
  obtain ⟨b0,hb0⟩ : ∃ b0,b0 = W.heap.size:=⟨_,rfl⟩
  have HZ : Hid (ConR W b0 b1 vars sites fields 4 a b f sa sc cs Z):=by rw [hb0,hb1]; exact hz
  rw [← hb1, ← hb0]
  clear hz hb1 hb0 HS
  obtain ⟨s0,s1,s2,c0,c1,c2,c3,c4, -, -⟩:=HZ.out
  refine (rAmong_any a vars Z).mono ?_
  rintro e W1 ⟨rfl,n1,rfl⟩
  have hcl : ∀ i,i < cs.length→Z.cell? ⟨blk sa,ofs sa + i,none⟩ = some (.int .i64 (nth cs i)):=by
   obtain ⟨a9,c9,e9, -, -,h9, -⟩:=HZ.out.set.out1 sInt
   simp only [Value.slice.injEq] at e9
   obtain ⟨rfl, -,rfl⟩:=e9
   exact h9
  have hmost : mostOf ⟨vars,sites,fields,cons⟩ ⟨4,a,b,f,cs⟩ = vars:=by simp [mostOf]
  have HM:=Lib.hid hmost
  clear hmost
  cases ha : amB a vars
  ·have HA:=Lib.hid (amB_f ha)
   clear ha
   go_wp2_with fail
   go_ret
   exact ⟨ret_int (con4 (by dsimp only; omega) (.inl (by rw [HM.out]; have:=HA.out; dsimp only; omega))).symm,by first | exact below_drewN HZ.out.bel _ | exact below_drewN (below_drewN HZ.out.bel _) _⟩
  have HA:=Lib.hid (amB_t ha)
  clear ha
  go_wp2_with fail
  refine (rAmong_any b vars _).mono ?_
  rintro e W2 ⟨rfl,n2,rfl⟩
  cases hb : amB b vars
  ·have HBB:=Lib.hid (amB_f hb)
   clear hb
   go_wp2_with fail
   go_ret
   exact ⟨ret_int (con4 (by dsimp only; omega) (.inl (by have:=HBB.out; dsimp only; omega))).symm,by first | exact below_drewN HZ.out.bel _ | exact below_drewN (below_drewN HZ.out.bel _) _⟩
  have HBB:=Lib.hid (amB_t hb)
  clear hb
  go_wp2_with fail
  refine (rAmong_any f fields _).mono ?_
  rintro e W3 ⟨rfl,n3,rfl⟩
  cases hf : amB f fields
  ·have HF:=Lib.hid (amB_f hf)
   clear hf
   go_wp2_with fail
   go_ret
   exact ⟨ret_int (con4 (by dsimp only; omega) (.inr (.inl ⟨by dsimp only; omega,by have:=HF.out; dsimp only; omega⟩))).symm,by first | exact below_drewN HZ.out.bel _ | exact below_drewN (below_drewN HZ.out.bel _) _⟩
  have HF:=Lib.hid (amB_t hf)
  clear hf
  go_wp2_with fail
  go_loopw [7] (fun x wr => ∃ j : Nat,j ≤ cs.length∧x = .int .i64 j∧Qt Z wr∧Hid (∀ i,i < j→0 ≤ nth cs i∧nth cs i < sites)) (fun x _ => cs.length - (intOf x).toNat)
  case atStart => exact ⟨0,by omega,rfl,by exact (by first | exact Qt.refl _ | exact Qt.drewN _ _ | exact (Qt.drewN _ _).trans (Qt.drewN _ _) | exact ((Qt.drewN _ _).trans (Qt.drewN _ _)).trans (Qt.drewN _ _) | exact Qt.drew _ | exact (Qt.drewN _ _).trans (Qt.drew _)),fun i hi => by omega⟩
  case round =>
   obtain ⟨j,hj,rfl,⟨nw,rfl⟩,hch⟩:=hrel
   by_cases hlt : j < cs.length
   ·have hck:=hcl j hlt
    have hcall : ∀ n,Calls Tryz.prog 115 #[.int .i64 (nth cs j),.int .i64 sites] (Z.drewN n) fun e w' => e = .returned (.bool (amB (nth cs j) sites))∧Qt (Z.drewN n) w':=fun n => rAmong_any _ _ _
    obtain ⟨d,hd⟩ : ∃ d,d = amB (nth cs j) sites:=⟨_,rfl⟩
    rw [← hd] at hcall
    have HCall:=Lib.hid hcall
    clear hcall
    cases d
    ·have HD:=Lib.hid (amB_f hd.symm)
     clear hd
     go_wp2_with fail
     go_quiet ((go_at_call 115; exact Qt.quiet2 (HCall.out _)))
     go_wp2_with fail
     go_ret
     exact ⟨ret_int (con4 (by dsimp only; omega) (.inr (.inr (by rw [Bool.eq_false_iff]; intro hh; have h1:=(subB_iff _ _).1 hh j hlt; have:=HD.out; dsimp only at h1; omega)))).symm,by first | exact below_drewN HZ.out.bel _ | exact below_drewN (below_drewN HZ.out.bel _) _⟩
    ·have HD:=Lib.hid (amB_t hd.symm)
     clear hd
     go_wp2_with fail
     go_quiet ((go_at_call 115; exact Qt.quiet2 (HCall.out _)))
     go_wp2_with fail
     go_roundw
     case rel => exact ⟨j + 1,by omega,by go_num,(by first | exact Qt.refl _ | exact Qt.drewN _ _ | exact (Qt.drewN _ _).trans (Qt.drewN _ _) | exact ((Qt.drewN _ _).trans (Qt.drewN _ _)).trans (Qt.drewN _ _) | exact Qt.drew _ | exact (Qt.drewN _ _).trans (Qt.drew _)),fun i hi => by
      by_cases e : i = j
      ·subst e; exact HD.out
      ·exact hch.out i (by omega)⟩
     case measure => simp [intOf]; omega
   ·obtain rfl : j = cs.length:=by omega
    have hrest:=conRest (s:=⟨vars,sites,fields,cons⟩) (c:=⟨4,a,b,f,cs⟩) (by dsimp only; omega) (by rw [HM.out]; have:=HA.out; have:=HBB.out; dsimp only; omega) (by have:=HF.out; dsimp only at *; omega) ((subB_iff _ _).2 hch.out)
    have HRest:=Lib.hid hrest
    clear hrest
    clear hch
    go_wp2_with fail
    all_goals first
     | (go_ret
        exact ⟨ret_int (by rw [HRest.out]; (try dsimp only); rw [if_pos (by omega)]),by first | exact below_drewN HZ.out.bel _ | exact below_drewN (below_drewN HZ.out.bel _) _⟩)
     | (go_ret
        have hf0 : f = 0:=by assumption
        subst hf0
        exact ⟨ret_int (by rw [HRest.out]; (try dsimp only); rw [if_pos (by omega)]),by first | exact below_drewN HZ.out.bel _ | exact below_drewN (below_drewN HZ.out.bel _) _⟩)
     | (skip
        go_loopw [8] (fun x wr => ∃ j : Nat,1 ≤ j∧x = .int .i64 j∧Qt Z wr∧(j ≤ cs.length ∨ j = 1)∧Hid (∀ i,i + 1 < j→nth cs i < nth cs (i + 1))) (fun x _ => cs.length + 1 - (intOf x).toNat)
        case atStart => exact ⟨1,by omega,rfl,by exact (by first | exact Qt.refl _ | exact Qt.drewN _ _ | exact (Qt.drewN _ _).trans (Qt.drewN _ _) | exact ((Qt.drewN _ _).trans (Qt.drewN _ _)).trans (Qt.drewN _ _) | exact Qt.drew _ | exact (Qt.drewN _ _).trans (Qt.drew _)),by omega,fun i hi => by omega⟩
        case round =>
         obtain ⟨j,hj,rfl,⟨nw,rfl⟩,hj2,hch⟩:=hrel
         by_cases hlt : j < cs.length
         ·first
           | (exfalso; omega)
           | (skip
              obtain ⟨m,rfl⟩ : ∃ m,j = m + 1:=⟨j - 1,by omega⟩
              have hck:=hcl (m + 1) hlt
              have hck2:=hcl m (by omega)
              have hw : IntKind.i64.wrap (m : Int) = m:=IntWalk.i64_in _ (by omega)
              have hm1 : (m : Int) < (cs.length : Int):=by omega
              have hm2 : (m : Int) + 1 < (cs.length : Int):=by omega
              have hm3 : (0 : Int) ≤ (m : Int):=by omega
              have hm4 : (0 : Int) ≤ (m : Int) + 1:=by omega
              have hm5 : ((m : Int) + 1).toNat = m + 1:=by omega
              by_cases h1 : nth cs (m + 1) ≤ nth cs m
              ·have hd : decide (nth cs (m + 1) ≤ nth cs m) = true:=by simpa using h1
               go_wp2_with fail
               go_quiet (fail)
               go_wp2_with fail
               go_ret
               exact ⟨ret_int (by rw [HRest.out]; (try dsimp only); rw [if_neg (by omega),if_pos (by rw [Bool.eq_false_iff]; intro hh; have:=(ascB_iff _).1 hh m hlt; omega)]),by first | exact below_drewN HZ.out.bel _ | exact below_drewN (below_drewN HZ.out.bel _) _⟩
              ·have hd : decide (nth cs (m + 1) ≤ nth cs m) = false:=by simpa using h1
               go_wp2_with fail
               go_quiet (fail)
               go_wp2_with fail
               go_roundw
               case rel => exact ⟨m + 2,by omega,by go_num,(by first | exact Qt.refl _ | exact Qt.drewN _ _ | exact (Qt.drewN _ _).trans (Qt.drewN _ _) | exact ((Qt.drewN _ _).trans (Qt.drewN _ _)).trans (Qt.drewN _ _) | exact Qt.drew _ | exact (Qt.drewN _ _).trans (Qt.drew _)),by omega,fun i hi => by
                by_cases e : i = m
                ·subst e; omega
                ·exact hch.out i (by omega)⟩
               case measure => simp [intOf]; omega
              )
         ·have hasc : ascB cs = true:=(ascB_iff _).2 fun i hi => hch.out i (by omega)
          have HAsc:=Lib.hid hasc
          clear hasc
          go_wp2_with fail
          go_ret
          exact ⟨ret_int (by rw [HRest.out]; (try dsimp only); rw [if_neg (by omega),if_neg (by rw [HAsc.out]; simp)]),below_drewN HZ.out.bel _⟩
        )
 ·go_enter Tryz.func84,Tryz.ntmps84
  go_wp2_with fail
  refine calls_gen (fun Z => ConR W W.heap.size (W.heap.size + 1) vars sites fields 5 a b f sa sc cs Z) (ConR.new W cv _ _ _ _ _ _ _ _ _ _ HS.out) ?_
  rintro Z hz
  obtain ⟨b1,hb1⟩ : ∃ b1,b1 = W.heap.size + 1:=⟨_,rfl⟩
  obtain ⟨b0,hb0⟩ : ∃ b0,b0 = W.heap.size:=⟨_,rfl⟩
  have HZ : Hid (ConR W b0 b1 vars sites fields 5 a b f sa sc cs Z):=by rw [hb0,hb1]; exact hz
  rw [← hb1, ← hb0]
  clear hz hb1 hb0 HS
  obtain ⟨s0,s1,s2,c0,c1,c2,c3,c4, -, -⟩:=HZ.out
  refine (rAmong_any a vars Z).mono ?_
  rintro e W1 ⟨rfl,n1,rfl⟩
  have hcl : ∀ i,i < cs.length→Z.cell? ⟨blk sa,ofs sa + i,none⟩ = some (.int .i64 (nth cs i)):=by
   obtain ⟨a9,c9,e9, -, -,h9, -⟩:=HZ.out.set.out1 sInt
   simp only [Value.slice.injEq] at e9
   obtain ⟨rfl, -,rfl⟩:=e9
   exact h9
  have hmost : mostOf ⟨vars,sites,fields,cons⟩ ⟨5,a,b,f,cs⟩ = vars:=by simp [mostOf]
  have HM:=Lib.hid hmost
  clear hmost
  cases ha : amB a vars
  ·have HA:=Lib.hid (amB_f ha)
   clear ha
   go_wp2_with fail
   go_ret
   exact ⟨ret_int (con4 (by dsimp only; omega) (.inl (by rw [HM.out]; have:=HA.out; dsimp only; omega))).symm,by first | exact below_drewN HZ.out.bel _ | exact below_drewN (below_drewN HZ.out.bel _) _⟩
  have HA:=Lib.hid (amB_t ha)
  clear ha
  go_wp2_with fail
  refine (rAmong_any b vars _).mono ?_
  rintro e W2 ⟨rfl,n2,rfl⟩
  cases hb : amB b vars
  ·have HBB:=Lib.hid (amB_f hb)
   clear hb
   go_wp2_with fail
   go_ret
   exact ⟨ret_int (con4 (by dsimp only; omega) (.inl (by have:=HBB.out; dsimp only; omega))).symm,by first | exact below_drewN HZ.out.bel _ | exact below_drewN (below_drewN HZ.out.bel _) _⟩
  have HBB:=Lib.hid (amB_t hb)
  clear hb
  go_wp2_with fail
  have HF : Hid ((5 : Int) ≠ 3∧(5 : Int) ≠ 4):=Lib.hid (by omega)
  go_loopw [7] (fun x wr => ∃ j : Nat,j ≤ cs.length∧x = .int .i64 j∧Qt Z wr∧Hid (∀ i,i < j→0 ≤ nth cs i∧nth cs i < sites)) (fun x _ => cs.length - (intOf x).toNat)
  case atStart => exact ⟨0,by omega,rfl,by exact (by first | exact Qt.refl _ | exact Qt.drewN _ _ | exact (Qt.drewN _ _).trans (Qt.drewN _ _) | exact ((Qt.drewN _ _).trans (Qt.drewN _ _)).trans (Qt.drewN _ _) | exact Qt.drew _ | exact (Qt.drewN _ _).trans (Qt.drew _)),fun i hi => by omega⟩
  case round =>
   obtain ⟨j,hj,rfl,⟨nw,rfl⟩,hch⟩:=hrel
   by_cases hlt : j < cs.length
   ·have hck:=hcl j hlt
    have hcall : ∀ n,Calls Tryz.prog 115 #[.int .i64 (nth cs j),.int .i64 sites] (Z.drewN n) fun e w' => e = .returned (.bool (amB (nth cs j) sites))∧Qt (Z.drewN n) w':=fun n => rAmong_any _ _ _
    obtain ⟨d,hd⟩ : ∃ d,d = amB (nth cs j) sites:=⟨_,rfl⟩
    rw [← hd] at hcall
    have HCall:=Lib.hid hcall
    clear hcall
    cases d
    ·have HD:=Lib.hid (amB_f hd.symm)
     clear hd
     go_wp2_with fail
     go_quiet ((go_at_call 115; exact Qt.quiet2 (HCall.out _)))
     go_wp2_with fail
     go_ret
     exact ⟨ret_int (con4 (by dsimp only; omega) (.inr (.inr (by rw [Bool.eq_false_iff]; intro hh; have h1:=(subB_iff _ _).1 hh j hlt; have:=HD.out; dsimp only at h1; omega)))).symm,by first | exact below_drewN HZ.out.bel _ | exact below_drewN (below_drewN HZ.out.bel _) _⟩
    ·have HD:=Lib.hid (amB_t hd.symm)
     clear hd
     go_wp2_with fail
     go_quiet ((go_at_call 115; exact Qt.quiet2 (HCall.out _)))
     go_wp2_with fail
     go_roundw
     case rel => exact ⟨j + 1,by omega,by go_num,(by first | exact Qt.refl _ | exact Qt.drewN _ _ | exact (Qt.drewN _ _).trans (Qt.drewN _ _) | exact ((Qt.drewN _ _).trans (Qt.drewN _ _)).trans (Qt.drewN _ _) | exact Qt.drew _ | exact (Qt.drewN _ _).trans (Qt.drew _)),fun i hi => by
      by_cases e : i = j
      ·subst e; exact HD.out
      ·exact hch.out i (by omega)⟩
     case measure => simp [intOf]; omega
   ·obtain rfl : j = cs.length:=by omega
    have hrest:=conRest (s:=⟨vars,sites,fields,cons⟩) (c:=⟨5,a,b,f,cs⟩) (by dsimp only; omega) (by rw [HM.out]; have:=HA.out; have:=HBB.out; dsimp only; omega) (by have:=HF.out; dsimp only at *; omega) ((subB_iff _ _).2 hch.out)
    have HRest:=Lib.hid hrest
    clear hrest
    clear hch
    go_wp2_with fail
    all_goals first
     | (go_ret
        exact ⟨ret_int (by rw [HRest.out]; (try dsimp only); rw [if_pos (by omega)]),by first | exact below_drewN HZ.out.bel _ | exact below_drewN (below_drewN HZ.out.bel _) _⟩)
     | (go_ret
        have hf0 : f = 0:=by assumption
        subst hf0
        exact ⟨ret_int (by rw [HRest.out]; (try dsimp only); rw [if_pos (by omega)]),by first | exact below_drewN HZ.out.bel _ | exact below_drewN (below_drewN HZ.out.bel _) _⟩)
     | (skip
        go_loopw [8] (fun x wr => ∃ j : Nat,1 ≤ j∧x = .int .i64 j∧Qt Z wr∧(j ≤ cs.length ∨ j = 1)∧Hid (∀ i,i + 1 < j→nth cs i < nth cs (i + 1))) (fun x _ => cs.length + 1 - (intOf x).toNat)
        case atStart => exact ⟨1,by omega,rfl,by exact (by first | exact Qt.refl _ | exact Qt.drewN _ _ | exact (Qt.drewN _ _).trans (Qt.drewN _ _) | exact ((Qt.drewN _ _).trans (Qt.drewN _ _)).trans (Qt.drewN _ _) | exact Qt.drew _ | exact (Qt.drewN _ _).trans (Qt.drew _)),by omega,fun i hi => by omega⟩
        case round =>
         obtain ⟨j,hj,rfl,⟨nw,rfl⟩,hj2,hch⟩:=hrel
         by_cases hlt : j < cs.length
         ·first
           | (exfalso; omega)
           | (skip
              obtain ⟨m,rfl⟩ : ∃ m,j = m + 1:=⟨j - 1,by omega⟩
              have hck:=hcl (m + 1) hlt
              have hck2:=hcl m (by omega)
              have hw : IntKind.i64.wrap (m : Int) = m:=IntWalk.i64_in _ (by omega)
              have hm1 : (m : Int) < (cs.length : Int):=by omega
              have hm2 : (m : Int) + 1 < (cs.length : Int):=by omega
              have hm3 : (0 : Int) ≤ (m : Int):=by omega
              have hm4 : (0 : Int) ≤ (m : Int) + 1:=by omega
              have hm5 : ((m : Int) + 1).toNat = m + 1:=by omega
              by_cases h1 : nth cs (m + 1) ≤ nth cs m
              ·have hd : decide (nth cs (m + 1) ≤ nth cs m) = true:=by simpa using h1
               go_wp2_with fail
               go_quiet (fail)
               go_wp2_with fail
               go_ret
               exact ⟨ret_int (by rw [HRest.out]; (try dsimp only); rw [if_neg (by omega),if_pos (by rw [Bool.eq_false_iff]; intro hh; have:=(ascB_iff _).1 hh m hlt; omega)]),by first | exact below_drewN HZ.out.bel _ | exact below_drewN (below_drewN HZ.out.bel _) _⟩
              ·have hd : decide (nth cs (m + 1) ≤ nth cs m) = false:=by simpa using h1
               go_wp2_with fail
               go_quiet (fail)
               go_wp2_with fail
               go_roundw
               case rel => exact ⟨m + 2,by omega,by go_num,(by first | exact Qt.refl _ | exact Qt.drewN _ _ | exact (Qt.drewN _ _).trans (Qt.drewN _ _) | exact ((Qt.drewN _ _).trans (Qt.drewN _ _)).trans (Qt.drewN _ _) | exact Qt.drew _ | exact (Qt.drewN _ _).trans (Qt.drew _)),by omega,fun i hi => by
                by_cases e : i = m
                ·subst e; omega
                ·exact hch.out i (by omega)⟩
               case measure => simp [intOf]; omega
              )
         ·have hasc : ascB cs = true:=(ascB_iff _).2 fun i hi => hch.out i (by omega)
          have HAsc:=Lib.hid hasc
          clear hasc
          go_wp2_with fail
          go_ret
          exact ⟨ret_int (by rw [HRest.out]; (try dsimp only); rw [if_neg (by omega),if_neg (by rw [HAsc.out]; simp)]),below_drewN HZ.out.bel _⟩
        )
end Go.Proofs.YtgblfjccccdidaaGreat
end
section
namespace Go.Proofs.YtgblfjccccdidaaGreat
open Go.RowKit Go.Dfl Go.And
def CkIn (bw b o : Nat) (s : Sy) (cv : Value) (c : R) (sv : Value) (W : World) : Prop :=
 BoxS W bw s cv∧W.cell? ⟨b,o,none⟩ = some (.int .i64 c.k)∧W.cell? ⟨b,o + 1,none⟩ = some (.int .i64 c.a)∧W.cell? ⟨b,o + 2,none⟩ = some (.int .i64 c.b)∧W.cell? ⟨b,o + 3,none⟩ = some (.int .i64 c.f)∧W.cell? ⟨b,o + 4,none⟩ = some sv
theorem CkIn.grown {bw b o : Nat} {s : Sy} {cv : Value} {c : R} {sv : Value} {W W' : World} (h : CkIn bw b o s cv c sv W) (hg : W.grownBy W' none) : CkIn bw b o s cv c sv W' :=
 ⟨h.1.grown hg (by simp),hg.cell h.2.1 (by simp),hg.cell h.2.2.1 (by simp),hg.cell h.2.2.2.1 (by simp),hg.cell h.2.2.2.2.1 (by simp),hg.cell h.2.2.2.2.2 (by simp)⟩
set_option maxHeartbeats 3200000 in
theorem rCheck_any (s : Sy) (cv : Value) (W : World) (hc : ConsIn W cv s.cons) (hs : Sm s) :
  Calls Tryz.prog 53 #[SysV s cv] W fun e W' => e = .returned (.int .i64 (chkCode s))∧Below W.heap.size W W':=by
 obtain ⟨ca,cc,rfl,hlen,hci,hcc⟩:=hc.out
 have HC:=Lib.hid (And.intro hcc hc)
 have b1:=hs.vars
 have b2:=hs.sites
 have b3:=hs.fields
 have b4:=hs.cons
 clear hcc hc hs
 unfold SysV
 by_cases h1 : s.vars < 0
 ·go_enter Tryz.func53,Tryz.ntmps53
  go_wp2_with fail
  go_ret
  exact ⟨ret_int (by unfold chkCode; rw [if_pos (by omega)]),(Below.refl _ _).alloc (Nat.le_refl _) _⟩
 by_cases h2 : s.sites < 0
 ·go_enter Tryz.func53,Tryz.ntmps53
  go_wp2_with fail
  go_ret
  exact ⟨ret_int (by unfold chkCode; rw [if_pos (by omega)]),(Below.refl _ _).alloc (Nat.le_refl _) _⟩
 by_cases h3 : s.fields < 0
 ·go_enter Tryz.func53,Tryz.ntmps53
  go_wp2_with fail
  go_ret
  exact ⟨ret_int (by unfold chkCode; rw [if_pos (by omega)]),(Below.refl _ _).alloc (Nat.le_refl _) _⟩
 have hm0 : 0 ≤ s.sites * s.fields:=Int.mul_nonneg (by omega) (by omega)
 have hm1 : s.sites * s.fields ≤ 60:=by
  have h : s.sites * s.fields ≤ 12 * 5:=Int.mul_le_mul (by omega) (by omega) (by omega) (by omega)
  omega
 have hcode : chkCode s = fromCode s 0:=by unfold chkCode fromCode; rw [if_neg (by omega)]; rfl
 have HK:=Lib.hid hcode
 clear hcode
 go_enter Tryz.func53,Tryz.ntmps53
 go_wp2_with fail
 refine wp_gen (fun Z => BoxS Z W.heap.size s (.slice ca s.cons.length cc)∧Below W.heap.size W Z) ⟨BoxS.new _ _ _ _,(Below.refl _ _).alloc (Nat.le_refl _) _⟩ ?_
 rintro W1 h5
 obtain ⟨bw,hbw⟩ : ∃ bw,bw = W.heap.size:=⟨_,rfl⟩
 rw [← hbw] at h5 ⊢
 have H5:=Lib.hid h5
 have Hbw:=Lib.hid hbw
 clear h5 hbw hm0 hm1 h1 h2 h3
 go_loopw [3,4] (fun x _ wr => ∃ k : Nat,k ≤ s.cons.length∧x = .int .i64 k∧Hid (BoxS wr bw s (.slice ca s.cons.length cc)∧Below bw W wr∧chkCode s = fromCode s k)) (fun x _ _ => s.cons.length - (intOf x).toNat)
 case atStart => exact ⟨0,by omega,rfl,H5.out.1,H5.out.2,HK.out⟩
 case round =>
  obtain ⟨k,hk,rfl,hh⟩:=hrel
  by_cases hlt : k < s.cons.length
  ·obtain ⟨sa,sn,sc,c0,c1,c2,c3,c4,hset,hbl⟩:=HC.out.1 k hlt
   have hbel:=hh.out.2.1
   have hbl' : blk ca < bw:=by rw [Hbw.out]; exact hbl
   rw [← hbel.cell (p:=⟨blk ca,ofs ca + k * 5,none⟩) hbl'] at c0
   rw [← hbel.cell (p:=⟨blk ca,ofs ca + k * 5 + 1,none⟩) hbl'] at c1
   rw [← hbel.cell (p:=⟨blk ca,ofs ca + k * 5 + 2,none⟩) hbl'] at c2
   rw [← hbel.cell (p:=⟨blk ca,ofs ca + k * 5 + 3,none⟩) hbl'] at c3
   rw [← hbel.cell (p:=⟨blk ca,ofs ca + k * 5 + 4,none⟩) hbl'] at c4
   obtain ⟨d0,d1,d2,d3⟩:=hh.out.1
   have hstep:=fromCode_step hlt
   have hwr : W.heap.size ≤ wr.heap.size:=by rw [← Hbw.out]; exact Nat.le_trans (by rw [Hbw.out]; exact Nat.le_refl _) hbel.size
   have hset' : Ints wr (.slice sa sn sc) (nth s.cons k).s:=hset.below (by rw [← Hbw.out]; exact hbel)
   have hbwl : bw < wr.heap.size:=World.block_lt_of_cell? wr _ d0
   have n1 : bw ≠ wr.heap.size:=by omega
   have HS:=Lib.hid (And.intro hstep (And.intro hset' (And.intro hbel (And.intro hh.out.2.2 hh.out.1))))
   clear hstep hset' hbel hset hbl hbl' hh
   generalize nth s.cons k = c at *
   have hck : CkIn bw (blk ca) (ofs ca + k * 5) s (.slice ca s.cons.length cc) c (.slice sa sn sc) wr:=⟨⟨d0,d1,d2,d3⟩,c0,c1,c2,c3,c4⟩
   have HCK:=Lib.hid hck
   clear hck d0 d1 d2 c0 c1 c2 c3 c4
   go_wp2_with fail
   refine wp_region_mix [0,1,2,3,4,5] [6,7] (fun w' => CkIn bw (blk ca) (ofs ca + k * 5) s (.slice ca s.cons.length cc) c (.slice sa sn sc) w') (by kernel_rfl) (by kernel_rfl) (by kernel_rfl) (HCK.out.grown (grownBy_drew0 _)) ?_
   repeat (
    refine wpHeads_cons (v:=?_) rfl (Or.inl ⟨by rfl, ?_⟩) ?_
    rotate_left
    ·(intro W hW; obtain ⟨⟨q1,q2,q3,q4⟩,q5,q6,q7,q8,q9⟩:=hW; go_simp; try with_reducible rfl)
    simp only [Act.put,List.setIfInBounds_toArray])
   refine wpHeads_nil ?_
   refine wpTails_cons rfl ?_
   go_wp2_with fail
   refine (rCon_any s (.slice ca s.cons.length cc) c (.slice sa sn sc) _ (HS.out.2.1.grown (grownBy_drew0 _) (by simp))).mono ?_
   rintro e W7 ⟨rfl,q7⟩
   have g7:=grownBy_trans (grownBy_drew0 wr) (grownBy_below q7)
   have bx7:=HS.out.2.2.2.2.grown g7 (by simp)
   have be7:=HS.out.2.2.1.grown g7 (by omega) (by simp)
   have H7:=Lib.hid (And.intro bx7 be7)
   have HCK7:=Lib.hid (HCK.out.grown g7)
   clear bx7 be7 g7 q7 d3
   go_wp2_with fail
   refine tail_mk HCK7.out ?_
   refine wpTails_one rfl ?_
   go_wp2_with fail
   refine thenQ_mk ?_
   by_cases h0 : conCode s c = 0
   ·have hz : ((0 : Int) != 0) = false:=rfl
    rw [h0]
    have hst:=HS.out.1
    rw [if_pos h0] at hst
    have HT:=Lib.hid hst
    clear hst h0
    go_wp2_with fail
    go_roundw
    case rel => exact ⟨k + 1,by omega,by go_num,H7.out.1,H7.out.2,by rw [HS.out.2.2.2.1,HT.out]⟩
    case measure => simp [intOf]; omega
   ·have hst:=HS.out.1
    rw [if_neg h0] at hst
    have HT:=Lib.hid hst
    have hz : (conCode s c != 0) = true:=by simpa using h0
    clear hst
    generalize conCode s c = code at *
    go_wp2_with fail
    go_ret
    exact ⟨ret_int (by rw [HS.out.2.2.2.1,HT.out]),by rw [← Hbw.out]; exact H7.out.2⟩
  ·obtain rfl : k = s.cons.length:=by omega
   have HE:=Lib.hid hh.out
   clear hh
   obtain ⟨d0,d1,d2,d3⟩:=HE.out.1
   go_wp2_with fail
   go_ret
   exact ⟨ret_int (by rw [HE.out.2.2,fromCode_end]),by rw [← Hbw.out]; exact HE.out.2.1⟩
end Go.Proofs.YtgblfjccccdidaaGreat
end
section
namespace Go.Proofs.YtgblfjccccdidaaGreat
open Go.RowKit Go.Dfl Go.And
set_option maxHeartbeats 3200000 in
theorem rCheckC_any (s : Sy) (cv : Value) (W : World) (hc : ConsIn W cv s.cons) (hl9 : s.cons.length ≤ 1000) :
  Calls Tryz.prog 53 #[SysV s cv] W fun e W' => e = .returned (.int .i64 (chkG s))∧Below W.heap.size W W':=by
 obtain ⟨ca,cc,rfl,hlen,hci,hcc⟩:=hc.out
 have HC:=Lib.hid (And.intro hcc hc)
 clear hcc hc
 unfold SysV
 by_cases h1 : s.vars < 0
 ·go_enter Tryz.func53,Tryz.ntmps53
  go_wp2_with fail
  go_ret
  exact ⟨ret_int (by unfold chkG; rw [if_pos (by omega)]),(Below.refl _ _).alloc (Nat.le_refl _) _⟩
 by_cases h2 : s.sites < 0
 ·go_enter Tryz.func53,Tryz.ntmps53
  go_wp2_with fail
  go_ret
  exact ⟨ret_int (by unfold chkG; rw [if_pos (by omega)]),(Below.refl _ _).alloc (Nat.le_refl _) _⟩
 by_cases h3 : s.fields < 0
 ·go_enter Tryz.func53,Tryz.ntmps53
  go_wp2_with fail
  go_ret
  exact ⟨ret_int (by unfold chkG; rw [if_pos (by omega)]),(Below.refl _ _).alloc (Nat.le_refl _) _⟩
 by_cases g1 : 65536 < s.vars
 ·go_enter Tryz.func53,Tryz.ntmps53
  go_wp2_with fail
  go_ret
  exact ⟨ret_int (by unfold chkG bigS; rw [if_neg (by omega),if_pos (by simp; omega)]),(Below.refl _ _).alloc (Nat.le_refl _) _⟩
 by_cases g2 : 1024 < s.sites
 ·go_enter Tryz.func53,Tryz.ntmps53
  go_wp2_with fail
  go_ret
  exact ⟨ret_int (by unfold chkG bigS; rw [if_neg (by omega),if_pos (by simp; omega)]),(Below.refl _ _).alloc (Nat.le_refl _) _⟩
 by_cases g3 : 1024 < s.fields
 ·go_enter Tryz.func53,Tryz.ntmps53
  go_wp2_with fail
  go_ret
  exact ⟨ret_int (by unfold chkG bigS; rw [if_neg (by omega),if_pos (by simp; omega)]),(Below.refl _ _).alloc (Nat.le_refl _) _⟩
 have hm0 : 0 ≤ s.sites * s.fields:=Int.mul_nonneg (by omega) (by omega)
 have hm1 : s.sites * s.fields ≤ 1048576:=by
  have h : s.sites * s.fields ≤ 1024 * 1024:=Int.mul_le_mul (by omega) (by omega) (by omega) (by omega)
  omega
 by_cases g4 : 65536 < s.sites * s.fields
 ·go_enter Tryz.func53,Tryz.ntmps53
  go_wp2_with fail
  go_ret
  exact ⟨ret_int (by unfold chkG bigS; rw [if_neg (by omega),if_pos (by simp; omega)]),(Below.refl _ _).alloc (Nat.le_refl _) _⟩
 have hcode : chkG s = fromCode s 0:=by unfold chkG fromCode bigS; rw [if_neg (by omega),if_neg (by simp; omega)]; rfl
 have HK:=Lib.hid hcode
 clear hcode
 go_enter Tryz.func53,Tryz.ntmps53
 go_wp2_with fail
 refine wp_gen (fun Z => BoxS Z W.heap.size s (.slice ca s.cons.length cc)∧Below W.heap.size W Z) ⟨BoxS.new _ _ _ _,(Below.refl _ _).alloc (Nat.le_refl _) _⟩ ?_
 rintro W1 h5
 obtain ⟨bw,hbw⟩ : ∃ bw,bw = W.heap.size:=⟨_,rfl⟩
 rw [← hbw] at h5 ⊢
 have H5:=Lib.hid h5
 have Hbw:=Lib.hid hbw
 clear h5 hbw hm0 hm1 h1 h2 h3 g1 g2 g3 g4
 go_loopw [3,4] (fun x _ wr => ∃ k : Nat,k ≤ s.cons.length∧x = .int .i64 k∧Hid (BoxS wr bw s (.slice ca s.cons.length cc)∧Below bw W wr∧chkG s = fromCode s k)) (fun x _ _ => s.cons.length - (intOf x).toNat)
 case atStart => exact ⟨0,by omega,rfl,H5.out.1,H5.out.2,HK.out⟩
 case round =>
  obtain ⟨k,hk,rfl,hh⟩:=hrel
  by_cases hlt : k < s.cons.length
  ·obtain ⟨sa,sn,sc,c0,c1,c2,c3,c4,hset,hbl⟩:=HC.out.1 k hlt
   have hbel:=hh.out.2.1
   have hbl' : blk ca < bw:=by rw [Hbw.out]; exact hbl
   rw [← hbel.cell (p:=⟨blk ca,ofs ca + k * 5,none⟩) hbl'] at c0
   rw [← hbel.cell (p:=⟨blk ca,ofs ca + k * 5 + 1,none⟩) hbl'] at c1
   rw [← hbel.cell (p:=⟨blk ca,ofs ca + k * 5 + 2,none⟩) hbl'] at c2
   rw [← hbel.cell (p:=⟨blk ca,ofs ca + k * 5 + 3,none⟩) hbl'] at c3
   rw [← hbel.cell (p:=⟨blk ca,ofs ca + k * 5 + 4,none⟩) hbl'] at c4
   obtain ⟨d0,d1,d2,d3⟩:=hh.out.1
   have hstep:=fromCode_step hlt
   have hwr : W.heap.size ≤ wr.heap.size:=by rw [← Hbw.out]; exact Nat.le_trans (by rw [Hbw.out]; exact Nat.le_refl _) hbel.size
   have hset' : Ints wr (.slice sa sn sc) (nth s.cons k).s:=hset.below (by rw [← Hbw.out]; exact hbel)
   have hbwl : bw < wr.heap.size:=World.block_lt_of_cell? wr _ d0
   have n1 : bw ≠ wr.heap.size:=by omega
   have HS:=Lib.hid (And.intro hstep (And.intro hset' (And.intro hbel (And.intro hh.out.2.2 hh.out.1))))
   clear hstep hset' hbel hset hbl hbl' hh
   generalize nth s.cons k = c at *
   have hck : CkIn bw (blk ca) (ofs ca + k * 5) s (.slice ca s.cons.length cc) c (.slice sa sn sc) wr:=⟨⟨d0,d1,d2,d3⟩,c0,c1,c2,c3,c4⟩
   have HCK:=Lib.hid hck
   clear hck d0 d1 d2 c0 c1 c2 c3 c4
   go_wp2_with fail
   refine wp_region_mix [0,1,2,3,4,5] [6,7] (fun w' => CkIn bw (blk ca) (ofs ca + k * 5) s (.slice ca s.cons.length cc) c (.slice sa sn sc) w') (by kernel_rfl) (by kernel_rfl) (by kernel_rfl) (HCK.out.grown (grownBy_drew0 _)) ?_
   repeat (
    refine wpHeads_cons (v:=?_) rfl (Or.inl ⟨by rfl, ?_⟩) ?_
    rotate_left
    ·(intro W hW; obtain ⟨⟨q1,q2,q3,q4⟩,q5,q6,q7,q8,q9⟩:=hW; go_simp; try with_reducible rfl)
    simp only [Act.put,List.setIfInBounds_toArray])
   refine wpHeads_nil ?_
   refine wpTails_cons rfl ?_
   go_wp2_with fail
   refine (rCon_any s (.slice ca s.cons.length cc) c (.slice sa sn sc) _ (HS.out.2.1.grown (grownBy_drew0 _) (by simp))).mono ?_
   rintro e W7 ⟨rfl,q7⟩
   have g7:=grownBy_trans (grownBy_drew0 wr) (grownBy_below q7)
   have bx7:=HS.out.2.2.2.2.grown g7 (by simp)
   have be7:=HS.out.2.2.1.grown g7 (by omega) (by simp)
   have H7:=Lib.hid (And.intro bx7 be7)
   have HCK7:=Lib.hid (HCK.out.grown g7)
   clear bx7 be7 g7 q7 d3
   go_wp2_with fail
   refine tail_mk HCK7.out ?_
   refine wpTails_one rfl ?_
   go_wp2_with fail
   refine thenQ_mk ?_
   by_cases h0 : conCode s c = 0
   ·have hz : ((0 : Int) != 0) = false:=rfl
    rw [h0]
    have hst:=HS.out.1
    rw [if_pos h0] at hst
    have HT:=Lib.hid hst
    clear hst h0
    go_wp2_with fail
    go_roundw
    case rel => exact ⟨k + 1,by omega,by go_num,H7.out.1,H7.out.2,by rw [HS.out.2.2.2.1,HT.out]⟩
    case measure => simp [intOf]; omega
   ·have hst:=HS.out.1
    rw [if_neg h0] at hst
    have HT:=Lib.hid hst
    have hz : (conCode s c != 0) = true:=by simpa using h0
    clear hst
    generalize conCode s c = code at *
    go_wp2_with fail
    go_ret
    exact ⟨ret_int (by rw [HS.out.2.2.2.1,HT.out]),by rw [← Hbw.out]; exact H7.out.2⟩
  ·obtain rfl : k = s.cons.length:=by omega
   have HE:=Lib.hid hh.out
   clear hh
   obtain ⟨d0,d1,d2,d3⟩:=HE.out.1
   go_wp2_with fail
   go_ret
   exact ⟨ret_int (by rw [HE.out.2.2,fromCode_end]),by rw [← Hbw.out]; exact HE.out.2.1⟩
open Go.Clp Go.Gra in
set_option maxHeartbeats 1600000 in
theorem rCk19_any (s : Sy) (cv : Value) (W : World) (hc : ConsIn W cv s.cons) (hck : ∀ Z,ConsIn Z cv s.cons→Calls Tryz.prog 53 #[SysV s cv] Z fun e W' => e = .returned (.int .i64 (chkG s))∧Below Z.heap.size Z W') :
  Calls Tryz.prog 27 #[SysV s cv] W fun e W' => e = .returned (.int .i64 (colC s))∧Below W.heap.size W W':=by
 have hbs:=BoxS.new W s cv 24
 have hb0:=(Below.refl W.heap.size W).alloc (Nat.le_refl _) (.cells #[.int .i64 s.vars,.int .i64 s.sites,.int .i64 s.fields,cv] 24)
 obtain ⟨ca,cc,rfl, -⟩:=hc.out
 have hk:=hck _ (hc.below hb0)
 have HK:=Lib.hid (And.intro hk (And.intro hb0 hbs))
 clear hc hck hk hb0 hbs
 unfold SysV at *
 go_enter Tryz.func27,Tryz.ntmps27
 go_wp2_with fail
 refine HK.out.1.mono ?_
 rintro e W1 ⟨rfl,q1⟩
 obtain ⟨d0, -, -, -⟩:=HK.out.2.2.grown (grownBy_below q1) (by simp)
 have H1:=Lib.hid (HK.out.2.1.trans (q1.mono HK.out.2.1.size))
 clear q1
 by_cases h0 : chkG s = 0
 ·rw [h0]
  have hz : ((0 : Int) != 0) = false:=rfl
  by_cases h1 : 8192 < s.vars
  ·have he : colC s = 3:=by unfold colC; rw [if_neg (by simpa using h0),if_pos h1]
   have HE:=Lib.hid he
   clear he h0
   go_wp2_with fail
   go_ret
   exact ⟨ret_int HE.out.symm,H1.out⟩
  ·have he : colC s = 0:=by unfold colC; rw [if_neg (by simpa using h0),if_neg h1]
   have HE:=Lib.hid he
   clear he h0
   go_wp2_with fail
   go_ret
   exact ⟨ret_int HE.out.symm,H1.out⟩
 ·have he : colC s = chkG s:=by unfold colC; rw [if_pos h0]
  have HE:=Lib.hid he
  have hz : (chkG s != 0) = true:=by simpa using h0
  clear he h0
  generalize chkG s = code at *
  go_wp2_with fail
  go_ret
  exact ⟨ret_int HE.out.symm,H1.out⟩
open Go.Clp Go.Gra in
set_option maxHeartbeats 3200000 in
set_option maxRecDepth 100000 in
theorem rCopiesO_any (s : Sy) (cv : Value) (W : World) (hc : ConsIn W cv s.cons) (hl9 : s.cons.length ≤ 1000) :
  Calls Tryz.prog 29 #[SysV s cv] W fun e W' => (∃ ea ec,e = .returned (.slice ea (copE s.cons).length ec)∧OwnE elE W' (W.heap.size + 1) 60 (.slice ea (copE s.cons).length ec) (copE s.cons))∧Below W.heap.size W W':=by
 obtain ⟨ca,cc,rfl,hlen,hci,hcc⟩:=hc.out
 have hbs:=BoxS.new W s (.slice ca s.cons.length cc) 24
 have hb0:=(Below.refl W.heap.size W).alloc (Nat.le_refl _) (.cells #[.int .i64 s.vars,.int .i64 s.sites,.int .i64 s.fields,.slice ca s.cons.length cc] 24)
 have H0:=Lib.hid (And.intro hbs (And.intro hb0 (And.intro hcc (show OwnE elE (W.alloc (.cells #[.int .i64 s.vars,.int .i64 s.sites,.int .i64 s.fields,.slice ca s.cons.length cc] 24)) (W.heap.size + 1) 60 (.slice none 0 0) [] from OwnE.nil _ _ _ _))))
 clear hbs hb0 hcc hc
 unfold SysV
 go_enter Tryz.func29,Tryz.ntmps29
 go_wp2_with fail
 refine wp_gen (fun Z => BoxS Z W.heap.size s (.slice ca s.cons.length cc)∧Below W.heap.size W Z∧OwnE elE Z (W.heap.size + 1) 60 (.slice none 0 0) []) ⟨H0.out.1,H0.out.2.1,H0.out.2.2.2⟩ ?_
 intro Z0 hZ0
 obtain ⟨bw,hbw⟩ : ∃ bw,bw = W.heap.size:=⟨_,rfl⟩
 rw [← hbw] at hZ0 ⊢
 have HZ0:=Lib.hid (And.intro hZ0 hbw)
 clear hZ0 hbw
 go_loopw [3,4] (fun y x wr => ∃ (k : Nat) (ea : Option Addr) (ec : Nat),k ≤ s.cons.length∧x = .int .i64 k∧y = .slice ea (copE (s.cons.take k)).length ec∧Hid (BoxS wr bw s (.slice ca s.cons.length cc)∧Below bw W wr∧OwnE elE wr (bw + 1) 60 (.slice ea (copE (s.cons.take k)).length ec) (copE (s.cons.take k)))) (fun _ x _ => s.cons.length - (intOf x).toNat)
 case atStart => exact ⟨0,none,0,by omega,rfl,rfl,HZ0.out.1.1,HZ0.out.1.2.1,HZ0.out.1.2.2⟩
 case round =>
  obtain ⟨k,ea,ec,hk,rfl,rfl,hh⟩:=hrel
  obtain ⟨d0,d1,d2,d3⟩:=hh.out.1
  have hwz : bw + 1 ≤ wr.heap.size:=World.block_lt_of_cell? wr _ d0
  have hbel:=hh.out.2.1
  by_cases hlt : k < s.cons.length
  ·obtain ⟨sa,sn,sc,c0,c1,c2,c3,c4,hset,hbl⟩:=H0.out.2.2.1 k hlt
   have hbl' : blk ca < bw:=by rw [HZ0.out.2]; exact hbl
   rw [← hbel.cell (p:=⟨blk ca,ofs ca + k * 5,none⟩) hbl'] at c0
   rw [← hbel.cell (p:=⟨blk ca,ofs ca + k * 5 + 1,none⟩) hbl'] at c1
   rw [← hbel.cell (p:=⟨blk ca,ofs ca + k * 5 + 2,none⟩) hbl'] at c2
   have hel : (copE (s.cons.take k)).length ≤ 1000:=Nat.le_trans (copE_len _) (by simp; omega)
   obtain ⟨c,hcd⟩ : ∃ c,c = nth s.cons k:=⟨_,rfl⟩
   rw [← hcd] at c0 c1 c2
   have HX:=Lib.hid (And.intro hh.out (And.intro hcd (And.intro hbl' hwz)))
   clear hh hbel hbl hbl' hset c3 c4 hwz
   by_cases h2 : c.k = 2
   ·have hw : (c.k == 2) = true:=by simpa using h2
    have hyes:=copE_yes hlt (by rw [← hcd]; exact h2)
    rw [← hcd] at hyes
    have HY:=Lib.hid hyes
    clear hyes h2 hcd
    generalize hE : copE (s.cons.take k) = E at *
    go_wp2_with fail
    refine wp_region_mix [0,1,2,3,4,5,6,7,8,9,10,11,12,13] [14,15,16] (fun w' => w'.cell? ⟨bw,3,none⟩ = some (.slice ca s.cons.length cc)∧w'.cell? ⟨blk ca,ofs ca + k * 5 + 1,none⟩ = some (.int .i64 c.a)∧w'.cell? ⟨blk ca,ofs ca + k * 5 + 2,none⟩ = some (.int .i64 c.b)) (by kernel_rfl) (by kernel_rfl) (by kernel_rfl) ⟨d3,c1,c2⟩ ?_
    repeat (
     refine wpHeads_cons (v:=?_) rfl (Or.inl ⟨by rfl, ?_⟩) ?_
     rotate_left
     ·(intro W hW; obtain ⟨x1,x2,x3⟩:=hW; go_simp; try with_reducible rfl)
     simp only [Act.put,List.setIfInBounds_toArray,List.getElem_toArray,List.getElem_cons_zero,List.getElem_cons_succ,List.set_cons_succ,List.set_cons_zero])
    refine wpHeads_nil ?_
    refine wpTails_cons rfl ?_
    go_wp2_with fail
    have hA:=grownBy_trans (grownBy_drew0 wr) (grownBy_alloc wr.drew (.cells #[.int .i64 c.a,.int .i64 c.b] 60))
    have hSA : (wr.drew.alloc (.cells #[.int .i64 c.a,.int .i64 c.b] 60)).cell? ⟨bw,3,none⟩ = some (.slice ca s.cons.length cc)∧(wr.drew.alloc (.cells #[.int .i64 c.a,.int .i64 c.b] 60)).cell? ⟨blk ca,ofs ca + k * 5 + 1,none⟩ = some (.int .i64 c.a)∧(wr.drew.alloc (.cells #[.int .i64 c.a,.int .i64 c.b] 60)).cell? ⟨blk ca,ofs ca + k * 5 + 2,none⟩ = some (.int .i64 c.b):=⟨hA.cell d3 (by simp),hA.cell c1 (by simp),hA.cell c2 (by simp)⟩
    have HSA:=Lib.hid hSA
    have hsz : bw + 1 ≤ (wr.drew.alloc (.cells #[.int .i64 c.a,.int .i64 c.b] 60)).heap.size:=Nat.le_trans HX.out.2.2.2 hA.size
    have HA:=Lib.hid (And.intro (HX.out.1.1.grown hA (by simp)) (And.intro (HX.out.1.2.1.grown hA (by have:=HX.out.2.2.2; omega) (by simp)) (And.intro (OwnE.grown HX.out.1.2.2 hA (by cases (Value.slice ea E.length ec).ownBlock <;> simp)) hsz)))
    clear hA hSA hsz d0 d1 d2 d3 c0 c1 c2
    refine tail_mk HSA.out ?_
    refine wpTails_cons rfl ?_
    refine wp_appendE (E:=elE) sEdge rfl rfl _ _ rfl (v:=.slice ea E.length ec) (l:=E) (base:=bw + 1) rfl wr.heap.size rfl HA.out.2.2.1 (c.a,c.b) (cells_new (W:=wr.drew) (cs:=[.int .i64 c.a,.int .i64 c.b]) (t:=60) rfl) (by omega) (by omega) HA.out.2.2.2 ?_
    intro v' w3 hown hgr hat
    obtain ⟨s9,c9,rfl⟩:=hown.shape (n:=E.length + 1) (by simp)
    have hrow : ∀ q,(Value.slice ea E.length ec).ownBlock = some q→bw + 1 ≤ q:=fun q hq => (OwnE.lt HX.out.1.2.2 q hq).1
    have r1:=HA.out.1.grown hgr (fun e => by have:=hrow _ e.symm; omega)
    have r2:=HA.out.2.1.grown hgr (by have:=HA.out.2.2.2; omega) (fun q hq => by have:=hrow q hq; omega)
    have nb : ∀ q : Nat,q ≤ bw→some q ≠ (Value.slice ea E.length ec).ownBlock:=fun q hq e => by have:=hrow q e.symm; omega
    have hS3 : w3.cell? ⟨bw,3,none⟩ = some (.slice ca s.cons.length cc)∧w3.cell? ⟨blk ca,ofs ca + k * 5 + 1,none⟩ = some (.int .i64 c.a)∧w3.cell? ⟨blk ca,ofs ca + k * 5 + 2,none⟩ = some (.int .i64 c.b):=⟨hgr.cell HSA.out.1 (nb _ (Nat.le_refl _)),hgr.cell HSA.out.2.1 (nb _ (Nat.le_of_lt HX.out.2.2.1)),hgr.cell HSA.out.2.2 (nb _ (Nat.le_of_lt HX.out.2.2.1))⟩
    have HR:=Lib.hid (And.intro (And.intro r1 (And.intro r2 hown)) hS3)
    clear r1 r2 hown hgr hat hrow nb hS3
    refine tail_mk HR.out.2 ?_
    refine wpTails_one rfl ?_
    go_wp2_with fail
    refine thenQ_mk ?_
    go_wp2_with fail
    go_roundw
    case rel => exact ⟨k + 1,s9,c9,by omega,by go_num,by rw [HY.out]; simp,by
     rw [HY.out,List.length_append]
     exact HR.out.1⟩
    case measure => simp [intOf]; omega
   ·have hw : (c.k == 2) = false:=by simpa using h2
    have hno:=copE_no hlt (by rw [← hcd]; exact h2)
    have HN:=Lib.hid hno
    clear hno h2 hcd
    go_wp2_with fail
    go_roundw
    case rel => exact ⟨k + 1,ea,ec,by omega,by go_num,by rw [HN.out],by rw [HN.out]; exact HX.out.1⟩
    case measure => simp [intOf]; omega
  ·obtain rfl : k = s.cons.length:=by omega
   rw [List.take_length] at hh ⊢
   have HH:=Lib.hid hh.out
   clear hh
   go_wp2_with fail
   go_ret
   have h1:=HH.out.2.1
   have h2:=HH.out.2.2
   rw [HZ0.out.2] at h1 h2
   exact ⟨⟨_,_,rfl,h2⟩,h1⟩
end Go.Proofs.YtgblfjccccdidaaGreat
end
section
namespace Go.Clp
open Go.Dfl (nth nth_set nth_mem mem_nth nth_eq nth_ext nth_append nth_out take_snoc)
open Go.Tj (Rt Sc IsHd)
open Go.And (R Sy Vld VldC Sm)
def edI (s : Sy) (lu : List (List Int)) (c : R) : List (Int × Int) :=
 if c.k = 3 then (nth lu c.a.toNat).map fun x => (s.vars + x * s.fields + c.f,c.b)
 else if c.k = 4 then (nth lu c.b.toNat).map fun x => (c.a,s.vars + x * s.fields + c.f)
 else []
def finL (s : Sy) (lu : List (List Int)) (k : Nat) : List (Int × Int):=copE s.cons ++ (s.cons.take k).flatMap (edI s lu)
theorem finL_zero (s : Sy) (lu : List (List Int)) : finL s lu 0 = copE s.cons:=by simp [finL]
theorem finL_succ {s : Sy} {lu : List (List Int)} {k : Nat} (h : k < s.cons.length) : finL s lu (k + 1) = finL s lu k ++ edI s lu (nth s.cons k):=by
 unfold finL
 rw [take_snoc _ _ h,List.flatMap_append,List.append_assoc]
 simp
theorem edI_len {s : Sy} {lu : List (List Int)} {c : R} {m : Nat} (h : ∀ i,(nth lu i).length ≤ m) : (edI s lu c).length ≤ m:=by
 unfold edI
 by_cases h3 : c.k = 3
 ·rw [if_pos h3,List.length_map]; exact h _
 ·rw [if_neg h3]
  by_cases h4 : c.k = 4
  ·rw [if_pos h4,List.length_map]; exact h _
  ·rw [if_neg h4]; exact Nat.zero_le _
theorem finL_len {s : Sy} {lu : List (List Int)} {m : Nat} (h : ∀ i,(nth lu i).length ≤ m) : ∀ k,k ≤ s.cons.length→(finL s lu k).length ≤ s.cons.length + k * m
 | 0,_ => by rw [finL_zero]; have:=copE_len s.cons; omega
 | k + 1,hk => by
   have h1:=finL_len (s:=s) h k (by omega)
   have h2:=edI_len (s:=s) (c:=nth s.cons k) h
   rw [finL_succ (by omega),List.length_append,Nat.succ_mul]
   omega
theorem cell_cast {s : Sy} (hv : Vld s) {x f : Int} (hx : 0 ≤ x) (hf : 0 ≤ f) : ((cellI s x f : Nat) : Int) = s.vars + x * s.fields + f:=by
 unfold cellI
 have h1:=hv.vars
 have h2:=hv.fields
 rw [Int.natCast_add,Int.natCast_add,Int.natCast_mul,Int.toNat_of_nonneg h1,Int.toNat_of_nonneg hx,Int.toNat_of_nonneg h2,Int.toNat_of_nonneg hf]
theorem mem_finL {s : Sy} {lu : List (List Int)} (hv : Vld s) (hu : ∀ i, ∀ x ∈ nth lu i,0 ≤ x) (e : Int × Int) : e ∈ finL s lu s.cons.length ↔ ∃ a b : Nat,e = ((a : Int),(b : Int))∧edT s lu s.cons.length (a,b):=by
 unfold finL
 rw [List.take_length,List.mem_append,List.mem_flatMap]
 constructor
 ·rintro (h | ⟨c,hc,h⟩)
  ·obtain ⟨c,hc,h2,h3,h4⟩:=mem_copE.1 h
   have hcv:=hv.cons c hc
   have ha:=hcv.a
   have hb:=hcv.b
   obtain ⟨i,hi,rfl⟩:=mem_nth hc
   refine ⟨(nth s.cons i).a.toNat,(nth s.cons i).b.toNat, ?_,i,hi, ?_⟩
   ·rw [Int.toNat_of_nonneg ha.1,Int.toNat_of_nonneg hb.1,h3,h4]
   ·unfold edR; rw [if_pos h2]; simp
  ·have hcv:=hv.cons c hc
   have ha:=hcv.a
   have hb:=hcv.b
   obtain ⟨i,hi,rfl⟩:=mem_nth hc
   unfold edI at h
   by_cases h3 : (nth s.cons i).k = 3
   ·rw [if_pos h3] at h
    obtain ⟨x,hx,rfl⟩:=List.mem_map.1 h
    refine ⟨cellI s x (nth s.cons i).f,(nth s.cons i).b.toNat, ?_,i,hi, ?_⟩
    ·rw [cell_cast hv (hu _ x hx) hcv.f',Int.toNat_of_nonneg hb.1]
    ·unfold edR; rw [if_neg (by omega),if_pos h3]; exact List.mem_map.2 ⟨x,hx,rfl⟩
   ·rw [if_neg h3] at h
    by_cases h4 : (nth s.cons i).k = 4
    ·rw [if_pos h4] at h
     obtain ⟨x,hx,rfl⟩:=List.mem_map.1 h
     refine ⟨(nth s.cons i).a.toNat,cellI s x (nth s.cons i).f, ?_,i,hi, ?_⟩
     ·rw [cell_cast hv (hu _ x hx) hcv.f',Int.toNat_of_nonneg ha.1]
     ·unfold edR; rw [if_neg (by omega),if_neg h3,if_pos h4]; exact List.mem_map.2 ⟨x,hx,rfl⟩
    ·rw [if_neg h4] at h; cases h
 ·rintro ⟨a,b,rfl,i,hi,h⟩
  have hc:=nth_mem s.cons i hi
  have hcv:=hv.cons _ hc
  have ha:=hcv.a
  have hb:=hcv.b
  unfold edR at h
  by_cases h2 : (nth s.cons i).k = 2
  ·rw [if_pos h2,List.mem_singleton] at h
   simp only [Prod.mk.injEq] at h
   exact .inl (mem_copE.2 ⟨_,hc,h2,by dsimp only; omega,by dsimp only; omega⟩)
  ·rw [if_neg h2] at h
   refine .inr ⟨_,hc, ?_⟩
   unfold edI
   by_cases h3 : (nth s.cons i).k = 3
   ·rw [if_pos h3] at h ⊢
    obtain ⟨x,hx,he⟩:=List.mem_map.1 h
    simp only [Prod.mk.injEq] at he
    refine List.mem_map.2 ⟨x,hx, ?_⟩
    rw [← he.1, ← he.2,cell_cast hv (hu _ x hx) hcv.f',Int.toNat_of_nonneg hb.1]
   ·rw [if_neg h3] at h ⊢
    by_cases h4 : (nth s.cons i).k = 4
    ·rw [if_pos h4] at h ⊢
     obtain ⟨x,hx,he⟩:=List.mem_map.1 h
     simp only [Prod.mk.injEq] at he
     refine List.mem_map.2 ⟨x,hx, ?_⟩
     rw [← he.1, ← he.2,cell_cast hv (hu _ x hx) hcv.f',Int.toNat_of_nonneg ha.1]
    ·rw [if_neg h4] at h; cases h
theorem eI_finL {s : Sy} {lu : List (List Int)} (hv : Vld s) (hu : ∀ i, ∀ x ∈ nth lu i,0 ≤ x) (a b : Nat) : eI (finL s lu s.cons.length) a b ↔ eF s lu a b:=by
 unfold eI eF
 rw [mem_finL hv hu]
 constructor
 ·rintro ⟨a',b',he,h⟩
  simp only [Prod.mk.injEq] at he
  obtain rfl : a = a':=by omega
  obtain rfl : b = b':=by omega
  exact h
 ·exact fun h => ⟨a,b,rfl,h⟩
end Go.Clp
namespace Go.Proofs.YtgblfjccccdidaaGreat
open Go.RowKit Go.Dfl Go.Clp Go.Gra
open Go.And (R Sy Vld Sm)
structure FnM (W : World) (s : Sy) (cv : Value) (bs bp B : Nat) (u : Value) (rv : Value) (E : List (Int × Int)) (Z : World) : Prop where
 bel : Below W.heap.size W Z
 box : BoxS Z bs s cv
 px : Z.cell? ⟨bp,0,none⟩ = some u
 own : OwnE elE Z B 60 rv E
 lt : bs < B∧bp < B∧W.heap.size ≤ B∧B ≤ Z.heap.size
section
variable {W Z Z' : World} {s : Sy} {cv u rv v' : Value} {bs bp B : Nat} {E : List (Int × Int)} {x : Int × Int}
theorem FnM.row (h : FnM W s cv bs bp B u rv E Z) : ∀ q,rv.ownBlock = some q→B ≤ q∧q < Z.heap.size:=fun q hq => OwnE.lt h.own q hq
theorem FnM.grown (h : FnM W s cv bs bp B u rv E Z) (hg : Z.grownBy Z' none) : FnM W s cv bs bp B u rv E Z' :=
 ⟨h.bel.grown hg h.bel.size (by simp),h.box.grown hg (by simp),hg.cell h.px (by simp),OwnE.grown h.own hg (by cases rv.ownBlock <;> simp),h.lt.1,h.lt.2.1,h.lt.2.2.1,Nat.le_trans h.lt.2.2.2 hg.size⟩
theorem FnM.push (h : FnM W s cv bs bp B u rv E Z) (ho : OwnE elE Z' B 60 v' (E ++ [x])) (hg : Z.grownBy Z' rv.ownBlock) : FnM W s cv bs bp B u v' (E ++ [x]) Z':=by
 have hr:=h.row
 have hl:=h.lt
 exact ⟨h.bel.grown hg h.bel.size fun q hq => by have:=(hr q hq).1; omega,h.box.grown hg fun e => by have:=(hr _ e.symm).1; omega,hg.cell h.px fun e => by have:=(hr _ e.symm).1; have e2 : (⟨bp,0,none⟩ : Addr).block = bp:=rfl; omega,ho,hl.1,hl.2.1,hl.2.2.1,Nat.le_trans hl.2.2.2 hg.size⟩
end
def CBx (bc : Nat) (c : R) (sv : Value) (Z : World) : Prop:=Z.cell? ⟨bc,0,none⟩ = some (.int .i64 c.k)∧Z.cell? ⟨bc,1,none⟩ = some (.int .i64 c.a)∧Z.cell? ⟨bc,2,none⟩ = some (.int .i64 c.b)∧Z.cell? ⟨bc,3,none⟩ = some (.int .i64 c.f)∧Z.cell? ⟨bc,4,none⟩ = some sv
theorem CBx.grown {bc : Nat} {c : R} {sv : Value} {Z Z' : World} {row : Option Nat} (h : CBx bc c sv Z) (hg : Z.grownBy Z' row) (hn : some bc ≠ row) : CBx bc c sv Z':=⟨hg.cell h.1 hn,hg.cell h.2.1 hn,hg.cell h.2.2.1 hn,hg.cell h.2.2.2.1 hn,hg.cell h.2.2.2.2 hn⟩
end Go.Proofs.YtgblfjccccdidaaGreat
end
section
namespace Go.Proofs.YtgblfjccccdidaaGreat
open Go.RowKit Go.Dfl Go.Clp Go.Gra
open Go.And (R Sy Vld Sm)
def RFinR (s : Sy) (lu : List (List Int)) (W : World) (e : Ending) (W' : World) : Prop:=(∃ rv,e = .returned rv∧Pairs W' rv (finL s lu s.cons.length))∧Below W.heap.size W W'
set_option maxHeartbeats 12800000 in
set_option maxRecDepth 100000 in
theorem rFinal_any (s : Sy) (cv u v : Value) (us vs : List Value) (lu lv : List (List Int)) (W : World) (hc : ConsIn W cv s.cons) (hs : Sm s) (hv : Vld s) (hu : Grid (Value.int .i64) W u us lu) (hvv : Grid (Value.int .i64) W v vs lv)
  (hul : lu.length = s.vars.toNat) (hui : ∀ i, ∀ x ∈ nth lu i,0 ≤ x∧x < s.sites) (hus : ∀ i,(nth lu i).length ≤ 12) :
  Calls Tryz.prog 37 #[SysV s cv,.agg #[u,v]] W (RFinR s lu W):=by
 obtain ⟨ca,cc,rfl,hlen,hci,hcc⟩:=hc.out
 obtain ⟨ua,uc,rfl, -,ui,ucell⟩:=grid_rdC hu
 obtain ⟨va,vc,rfl, -, -, -⟩:=grid_rdC hvv
 have e0:=hs.vars
 have e1:=hs.sites
 have e2:=hs.fields
 have e3:=hs.cons
 have hv0:=hv.vars
 have hv1:=hv.sites
 have hv2:=hv.fields
 have hb0 : Below W.heap.size W _:=((Below.refl W.heap.size W).alloc (Nat.le_refl _) (.cells #[.int .i64 s.vars,.int .i64 s.sites,.int .i64 s.fields,.slice ca s.cons.length cc] 24)).alloc (by simp) (.cells #[.slice ua lu.length uc,.slice va lv.length vc] 34)
 have hbx:=(BoxS.new W s (.slice ca s.cons.length cc) 24).grown (grownBy_alloc _ (.cells #[.slice ua lu.length uc,.slice va lv.length vc] 34)) (by simp)
 have hpx : World.cell? _ ⟨W.heap.size + 1,0,none⟩ = some (.slice ua lu.length uc):=(cells_new (W:=W.alloc (.cells #[.int .i64 s.vars,.int .i64 s.sites,.int .i64 s.fields,.slice ca s.cons.length cc] 24)) (cs:=[.slice ua lu.length uc,.slice va lv.length vc]) (t:=34) (B:=W.heap.size + 1) (by simp)) 0 _ rfl
 have H0:=Lib.hid (And.intro (hc.below hb0) (And.intro hb0 (And.intro hbx (And.intro hpx (show W.heap.size + 2 ≤ _ from (Nat.le_of_eq (by simp : W.heap.size + 2 = ((W.alloc (.cells #[.int .i64 s.vars,.int .i64 s.sites,.int .i64 s.fields,.slice ca s.cons.length cc] 24)).alloc (.cells #[.slice ua lu.length uc,.slice va lv.length vc] 34)).heap.size)))))))
 have HC:=Lib.hid (And.intro hcc hv)
 have HU:=Lib.hid (And.intro hu (And.intro ucell (And.intro hui hus)))
 have HUL:=Lib.hid hul
 clear hc hcc hs hv hu hvv ucell hui hus hul hb0 hbx hpx
 unfold SysV
 go_enter Tryz.func37,Tryz.ntmps37
 go_wp2_with fail
 refine calls_genC (fun Z => ConsIn Z (.slice ca s.cons.length cc) s.cons∧Below W.heap.size W Z∧BoxS Z W.heap.size s (.slice ca s.cons.length cc)∧Z.cell? ⟨W.heap.size + 1,0,none⟩ = some (.slice ua lu.length uc)∧W.heap.size + 2 ≤ Z.heap.size) H0.out ?_
 rintro Z0 hZ0
 obtain ⟨bs,hbs⟩ : ∃ b,b = W.heap.size:=⟨_,rfl⟩
 obtain ⟨bp,hbp⟩ : ∃ b,b = W.heap.size + 1:=⟨_,rfl⟩
 have hZ : ConsIn Z0 (.slice ca s.cons.length cc) s.cons∧Below W.heap.size W Z0∧BoxS Z0 bs s (.slice ca s.cons.length cc)∧Z0.cell? ⟨bp,0,none⟩ = some (.slice ua lu.length uc)∧bs < Z0.heap.size∧bp < Z0.heap.size:=by
  rw [hbs,hbp]
  have:=hZ0.2.2.2.2
  exact ⟨hZ0.1,hZ0.2.1,hZ0.2.2.1,hZ0.2.2.2.1,by omega,by omega⟩
 rw [← hbp, ← hbs]
 have HZ:=Lib.hid hZ
 clear hZ hZ0 hbs hbp H0
 refine (rCopiesO_any s (.slice ca s.cons.length cc) _ HZ.out.1 (by omega)).mono ?_
 rintro e W1 ⟨⟨ea,ec,rfl,ho⟩,q1⟩
 have hM : FnM W s (.slice ca s.cons.length cc) bs bp Z0.heap.size (.slice ua lu.length uc) (.slice ea (copE s.cons).length ec) (copE s.cons) W1:=by
  have g1:=grownBy_below q1
  exact ⟨HZ.out.2.1.trans (q1.mono HZ.out.2.1.size),HZ.out.2.2.1.grown g1 (by simp),g1.cell HZ.out.2.2.2.1 (by simp),OwnE.mono9 ho (by omega),HZ.out.2.2.2.2.1,HZ.out.2.2.2.2.2,HZ.out.2.1.size,q1.size⟩
 obtain ⟨B,hB⟩ : ∃ B,B = Z0.heap.size:=⟨_,rfl⟩
 rw [← hB, ← finL_zero s lu] at hM
 rw [← finL_zero s lu]
 have HM:=Lib.hid hM
 clear hM ho q1 hB HZ
 obtain ⟨d0,d1,d2,d3⟩:=HM.out.box
 go_wp2_with fail
 clear d0 d1 d2 d3
 go_loopw [5,6,7,8,9] (fun ov x _ _ _ wr => ∃ (k : Nat) (ea : Option Addr) (ec : Nat),k ≤ s.cons.length∧x = .int .i64 (k : Int)∧ov = .slice ea (finL s lu k).length ec∧Hid (FnM W s (.slice ca s.cons.length cc) bs bp B (.slice ua lu.length uc) (.slice ea (finL s lu k).length ec) (finL s lu k) wr)) (fun _ x _ _ _ _ => s.cons.length - (intOf x).toNat)
 case atStart => exact ⟨0,ea,ec,by omega,rfl,rfl,HM.out⟩
 case round =>
  clear HM
  obtain ⟨k,ea,ec,hk,rfl,rfl,hh⟩:=hrel
  obtain ⟨d0,d1,d2,d3⟩:=hh.out.box
  by_cases hlt : k < s.cons.length
  ·obtain ⟨sa,sn,sc,c0,c1,c2,c3,c4,hset,hbl⟩:=HC.out.1 k hlt
   have hbel:=hh.out.bel
   rw [← hbel.cell (p:=⟨blk ca,ofs ca + k * 5,none⟩) hbl] at c0
   rw [← hbel.cell (p:=⟨blk ca,ofs ca + k * 5 + 1,none⟩) hbl] at c1
   rw [← hbel.cell (p:=⟨blk ca,ofs ca + k * 5 + 2,none⟩) hbl] at c2
   rw [← hbel.cell (p:=⟨blk ca,ofs ca + k * 5 + 3,none⟩) hbl] at c3
   rw [← hbel.cell (p:=⟨blk ca,ofs ca + k * 5 + 4,none⟩) hbl] at c4
   obtain ⟨c,hcd⟩ : ∃ c,c = nth s.cons k:=⟨_,rfl⟩
   have hvc:=HC.out.2.cons _ (nth_mem _ _ hlt)
   have hsucc:=finL_succ (lu:=lu) hlt
   have hEl:=finL_len (s:=s) (lu:=lu) (m:=12) HU.out.2.2.2 k hk
   rw [← hcd] at c0 c1 c2 c3 hvc hsucc
   obtain ⟨E,hE⟩ : ∃ E,E = finL s lu k:=⟨_,rfl⟩
   rw [← hE] at hh hsucc hEl
   rw [← hE]
   have hEl : E.length ≤ 1400:=by have : k * 12 ≤ 101 * 12:=Nat.mul_le_mul_right _ (by omega); omega
   have ha:=hvc.a
   have hb:=hvc.b
   have hf:=hvc.f
   have hf0:=hvc.f'
   have hV0 : FnM W s (.slice ca s.cons.length cc) bs bp B (.slice ua lu.length uc) (.slice ea E.length ec) E (wr.alloc (.cells #[.int .i64 c.k,.int .i64 c.a,.int .i64 c.b,.int .i64 c.f,.slice sa sn sc] 48)):=hh.out.grown (grownBy_alloc _ _)
   have hcn:=cells_new (W:=wr) (cs:=[.int .i64 c.k,.int .i64 c.a,.int .i64 c.b,.int .i64 c.f,.slice sa sn sc]) (t:=48) rfl
   have hcb : CBx wr.heap.size c (.slice sa sn sc) (wr.alloc (.cells #[.int .i64 c.k,.int .i64 c.a,.int .i64 c.b,.int .i64 c.f,.slice sa sn sc] 48)):=⟨hcn 0 _ rfl,hcn 1 _ rfl,hcn 2 _ rfl,hcn 3 _ rfl,hcn 4 _ rfl⟩
   have hno : ∀ q,(Value.slice ea E.length ec).ownBlock = some q→q ≠ wr.heap.size:=fun q hq => by have:=(hh.out.row q hq).2; omega
   have HV0:=Lib.hid (And.intro hV0 (And.intro hcb hno))
   have HD:=Lib.hid (And.intro hcd (And.intro hE (And.intro hsucc (And.intro ha (And.intro hb (And.intro hf hf0))))))
   clear hV0 hcn hcb hno hcd hE hsucc ha hb hf hf0 hvc hset hbl hbel hh
   by_cases h3 : c.k = 3
   ·have t3 : (c.k == 3) = true:=by simpa using h3
    have t4 : (c.k == 4) = false:=by rw [h3]; rfl
    obtain ⟨rn,hrn2⟩ : ∃ rn,rn = c.a.toNat:=⟨_,rfl⟩
    have ha0:=HD.out.2.2.2.1
    rw [if_neg (by omega)] at ha0
    have hrn : rn < lu.length:=by rw [HUL.out]; omega
    have uij:=ui .i64 c.a (by omega) (by omega)
    rw [← hrn2] at uij
    have hE:=HD.out.2.1
    have hcd:=HD.out.1
    have hcf0:=HD.out.2.2.2.2.2.2
    have hcf1:=(HD.out.2.2.2.2.2.1 (.inl h3)).2
    have H3:=Lib.hid h3
    clear h3
    obtain ⟨ra,rc,hrv, -,ri,rcell,rblk⟩:=Sliced.out1 (HU.out.1.2.2 rn hrn) sIntC
    obtain ⟨L,hL⟩ : ∃ L,L = nth lu rn:=⟨_,rfl⟩
    rw [← hL] at hrv ri rcell rblk
    have hL12 : L.length ≤ 12:=by rw [hL]; exact HU.out.2.2.2 rn
    have hLn : ∀ x ∈ L,0 ≤ x∧x < s.sites:=by rw [hL]; exact HU.out.2.2.1 rn
    have hedI : edI s lu c = L.map fun x => (s.vars + x * s.fields + c.f,c.b):=by
     rw [hL,hrn2]
     unfold edI
     rw [if_pos H3.out]
    have HE:=Lib.hid (And.intro hE (And.intro hEl (And.intro hedI (And.intro rcell (And.intro rblk (And.intro hLn hcd))))))
    clear hE hEl hedI rcell rblk hLn hL hrn2 hcd
    go_wp2_with fail
    refine wp_gen (fun Z => FnM W s (.slice ca s.cons.length cc) bs bp B (.slice ua lu.length uc) (.slice ea E.length ec) E Z∧CBx wr.heap.size c (.slice sa sn sc) Z∧∀ q,(Value.slice ea E.length ec).ownBlock = some q→q ≠ wr.heap.size) HV0.out ?_
    intro W5 h5
    obtain ⟨bc,hbc⟩ : ∃ b,b = wr.heap.size:=⟨_,rfl⟩
    rw [← hbc] at h5 ⊢
    have HV:=Lib.hid h5
    clear h5 hbc HV0
    go_loopw [5,8] (fun ov x wr => ∃ (j : Nat) (ea : Option Addr) (ec : Nat) (F : List (Int × Int)),j ≤ L.length∧x = .int .i64 (j : Int)∧ov = .slice ea F.length ec∧Hid (F = E ++ (L.take j).map (fun x => (s.vars + x * s.fields + c.f,c.b))∧FnM W s (.slice ca s.cons.length cc) bs bp B (.slice ua lu.length uc) (.slice ea F.length ec) F wr∧CBx bc c (.slice sa sn sc) wr∧∀ q,(Value.slice ea F.length ec).ownBlock = some q→q ≠ bc)) (fun _ x _ => L.length - (intOf x).toNat)
    case atStart => exact ⟨0,ea,ec,E,by omega,rfl,rfl,by simp,HV.out⟩
    case round =>
     obtain ⟨j,ea,ec,F,hj,rfl,rfl,hh⟩:=hrel
     have HF:=Lib.hid hh.out
     clear hh
     obtain ⟨d0,d1,d2,d3⟩:=HF.out.2.1.box
     obtain ⟨c0,c1,c2,c3,c4⟩:=HF.out.2.2.1
     have px:=HF.out.2.1.px
     have hbel:=HF.out.2.1.bel
     obtain ⟨uc0,ub0⟩:=HU.out.2.1 rn hrn
     rw [hrv, ← hbel.cell (p:=⟨blk ua,ofs ua + rn,none⟩) ub0] at uc0
     by_cases hjt : j < L.length
     ·have hjl : (j : Int) < (L.length : Int):=by omega
      obtain ⟨x,hx⟩ : ∃ x,x = nth L j:=⟨_,rfl⟩
      have xc:=HE.out.2.2.2.1 j hjt
      have hxb:=HE.out.2.2.2.2.2.1 _ (nth_mem _ _ hjt)
      have hrb:=HE.out.2.2.2.2.1 j hjt
      rw [← hbel.cell (p:=⟨blk ra,ofs ra + j,none⟩) hrb] at xc
      rw [← hx] at xc hxb
      have rij:=ri .i64 (j : Int) (by omega) (by omega)
      rw [Int.toNat_natCast] at rij
      have hFl : F.length ≤ 3000:=by rw [HF.out.1,List.length_append,List.length_map,List.length_take]; have:=HE.out.2.1; omega
      obtain ⟨m,hm⟩ : ∃ m,m = x * s.fields:=⟨_,rfl⟩
      have hm0 : 0 ≤ m:=by rw [hm]; exact Int.mul_nonneg hxb.1 hv2
      have hm1 : m ≤ 60:=by
       have h : x * s.fields ≤ 12 * 5:=Int.mul_le_mul (by omega) (by omega) (by omega) (by omega)
       omega
      have w1 : IntKind.i64.wrap (x * s.fields) = m:=by rw [← hm]; exact IntWalk.i64_in _ (by omega)
      have w2 : IntKind.i64.wrap (s.vars + m) = s.vars + m:=IntWalk.i64_in _ (by omega)
      have w3 : IntKind.i64.wrap (s.vars + m + c.f) = s.vars + m + c.f:=IntWalk.i64_in _ (by omega)
      have HX:=Lib.hid (And.intro hx (And.intro hm (And.intro ub0 hrb)))
      have HS0:=Lib.hid (show wr.drew.cell? ⟨bs,0,none⟩ = some (.int .i64 s.vars)∧wr.drew.cell? ⟨bs,2,none⟩ = some (.int .i64 s.fields)∧wr.drew.cell? ⟨bp,0,none⟩ = some (.slice ua lu.length uc)∧wr.drew.cell? ⟨bc,1,none⟩ = some (.int .i64 c.a)∧wr.drew.cell? ⟨bc,2,none⟩ = some (.int .i64 c.b)∧wr.drew.cell? ⟨bc,3,none⟩ = some (.int .i64 c.f)∧wr.drew.cell? ⟨blk ua,ofs ua + rn,none⟩ = some (.slice ra L.length rc)∧wr.drew.cell? ⟨blk ra,ofs ra + j,none⟩ = some (.int .i64 x) from ⟨d0,d2,px,c1,c2,c3,uc0,xc⟩)
      clear hx hm hrb hxb hbel
      go_wp2_with fail
      clear d0 d1 d2 d3 c0 c1 c2 c3 c4 px uc0 xc
      refine wp_region_mix [0,1,2,3,4,5,6,7,8,9,10,11,12,13,14,15,16,17,18,19,20,21] [22,23,24] (fun w' => w'.cell? ⟨bs,0,none⟩ = some (.int .i64 s.vars)∧w'.cell? ⟨bs,2,none⟩ = some (.int .i64 s.fields)∧w'.cell? ⟨bp,0,none⟩ = some (.slice ua lu.length uc)∧w'.cell? ⟨bc,1,none⟩ = some (.int .i64 c.a)∧w'.cell? ⟨bc,2,none⟩ = some (.int .i64 c.b)∧w'.cell? ⟨bc,3,none⟩ = some (.int .i64 c.f)∧w'.cell? ⟨blk ua,ofs ua + rn,none⟩ = some (.slice ra L.length rc)∧w'.cell? ⟨blk ra,ofs ra + j,none⟩ = some (.int .i64 x)) (by kernel_rfl) (by kernel_rfl) (by kernel_rfl) HS0.out ?_
      repeat (
       refine wpHeads_cons (v:=?_) rfl (Or.inl ⟨by rfl, ?_⟩) ?_
       rotate_left
       ·(intro W hW; obtain ⟨x1,x2,x3,x4,x5,x6,x7,x8⟩:=hW; go_simp; try with_reducible rfl)
       simp only [Act.put,List.setIfInBounds_toArray,List.getElem_toArray,List.getElem_cons_zero,List.getElem_cons_succ,List.set_cons_succ,List.set_cons_zero])
      refine wpHeads_nil ?_
      refine wpTails_cons rfl ?_
      go_wp2_with fail
      have hB:=grownBy_alloc wr.drew (.cells #[.int .i64 (s.vars + m + c.f),.int .i64 c.b] 60)
      have hA:=grownBy_trans (grownBy_drew0 wr) hB
      have HSA:=Lib.hid (And.intro (hB.cell HS0.out.1 (by simp)) (And.intro (hB.cell HS0.out.2.1 (by simp)) (And.intro (hB.cell HS0.out.2.2.1 (by simp)) (And.intro (hB.cell HS0.out.2.2.2.1 (by simp)) (And.intro (hB.cell HS0.out.2.2.2.2.1 (by simp)) (And.intro (hB.cell HS0.out.2.2.2.2.2.1 (by simp)) (And.intro (hB.cell HS0.out.2.2.2.2.2.2.1 (by simp)) (hB.cell HS0.out.2.2.2.2.2.2.2 (by simp)))))))))
      have HA:=Lib.hid (And.intro (HF.out.2.1.grown hA) (HF.out.2.2.1.grown hA (by simp)))
      clear hA hB HS0
      refine tail_mk HSA.out ?_
      refine wpTails_cons rfl ?_
      refine wp_appendE (E:=elE) sEdge rfl rfl _ _ rfl (v:=.slice ea F.length ec) (l:=F) (base:=B) rfl wr.heap.size rfl HA.out.1.own (s.vars + m + c.f,c.b) (cells_new (W:=wr.drew) (cs:=[.int .i64 (s.vars + m + c.f),.int .i64 c.b]) (t:=60) rfl) (by omega) (by omega) HA.out.1.lt.2.2.2 ?_
      intro v' w3 hown hgr hat
      obtain ⟨s9,c9,rfl⟩:=hown.shape (n:=F.length + 1) (by simp)
      have hrow:=HA.out.1.row
      have hlt:=HA.out.1.lt
      have nb : ∀ q : Nat,q < B→some q ≠ (Value.slice ea F.length ec).ownBlock:=fun q hq e => by have:=(hrow q e.symm).1; omega
      have nbc : some bc ≠ (Value.slice ea F.length ec).ownBlock:=fun e => HF.out.2.2.2 bc e.symm rfl
      have hbcs:=World.block_lt_of_cell? _ _ HF.out.2.2.1.1
      have hC:=HA.out.2.grown hgr nbc
      have hub:=HX.out.2.2
      have hS3:=And.intro (hgr.cell HSA.out.1 (nb _ hlt.1)) (And.intro (hgr.cell HSA.out.2.1 (nb _ hlt.1)) (And.intro (hgr.cell HSA.out.2.2.1 (nb _ hlt.2.1)) (And.intro (hgr.cell HSA.out.2.2.2.1 nbc) (And.intro (hgr.cell HSA.out.2.2.2.2.1 nbc) (And.intro (hgr.cell HSA.out.2.2.2.2.2.1 nbc) (And.intro (hgr.cell HSA.out.2.2.2.2.2.2.1 (nb _ (Nat.lt_of_lt_of_le hub.1 hlt.2.2.1))) (hgr.cell HSA.out.2.2.2.2.2.2.2 (nb _ (Nat.lt_of_lt_of_le hub.2 hlt.2.2.1)))))))))
      have hne : ∀ q,(Value.slice s9 (F.length + 1) c9).ownBlock = some q→q ≠ bc:=fun q hq => by
       rcases hat with h | h
       ·rw [h] at hq; exact HF.out.2.2.2 q hq
       ·rw [h] at hq; simp at hq hbcs; omega
      have HR:=Lib.hid (And.intro (HA.out.1.push hown hgr) (And.intro hC hne))
      clear hown hgr hat hrow hlt nb nbc hbcs hC hub hne
      refine tail_mk hS3 ?_
      clear hS3
      refine wpTails_one rfl ?_
      go_wp2_with fail
      refine thenQ_mk ?_
      go_wp2_with fail
      go_roundw
      case rel => exact ⟨j + 1,s9,c9,F ++ [(s.vars + m + c.f,c.b)],by omega,by go_num,by simp,by
       rw [take_snoc _ _ hjt,List.map_append, ← List.append_assoc, ← HF.out.1, ← HX.out.1]
       simp [HX.out.2.1],by rw [List.length_append]; exact HR.out.1,HR.out.2.1,by rw [List.length_append]; exact HR.out.2.2⟩
      case measure => simp [intOf]; omega
     ·obtain rfl : j = L.length:=by omega
      have HG:=Lib.hid (And.intro (show F = E ++ edI s lu c by rw [HF.out.1,List.take_length,HE.out.2.2.1]) HF.out.2.1)
      clear HF
      go_wp2_with fail
      go_roundw
      case rel => exact ⟨k + 1,ea,ec,by omega,by go_num,by rw [HD.out.2.2.1,HG.out.1],by rw [HD.out.2.2.1, ← HG.out.1]; exact HG.out.2⟩
      case measure => simp [intOf]; omega
   ·have t3 : (c.k == 3) = false:=by simpa using h3
    by_cases h4 : c.k = 4
    ·have t4 : (c.k == 4) = true:=by simpa using h4
     obtain ⟨rn,hrn2⟩ : ∃ rn,rn = c.b.toNat:=⟨_,rfl⟩
     have hb0:=HD.out.2.2.2.2.1
     have hrn : rn < lu.length:=by rw [HUL.out]; omega
     have uij:=ui .i64 c.b (by omega) (by omega)
     rw [← hrn2] at uij
     have hE:=HD.out.2.1
     have hcd:=HD.out.1
     have hcf0:=HD.out.2.2.2.2.2.2
     have hcf1:=(HD.out.2.2.2.2.2.1 (.inr h4)).2
     have H4:=Lib.hid h4
     clear h4
     obtain ⟨ra,rc,hrv, -,ri,rcell,rblk⟩:=Sliced.out1 (HU.out.1.2.2 rn hrn) sIntC
     obtain ⟨L,hL⟩ : ∃ L,L = nth lu rn:=⟨_,rfl⟩
     rw [← hL] at hrv ri rcell rblk
     have hL12 : L.length ≤ 12:=by rw [hL]; exact HU.out.2.2.2 rn
     have hLn : ∀ x ∈ L,0 ≤ x∧x < s.sites:=by rw [hL]; exact HU.out.2.2.1 rn
     have hedI : edI s lu c = L.map fun x => (c.a,s.vars + x * s.fields + c.f):=by
      rw [hL,hrn2]
      unfold edI
      rw [if_neg h3,if_pos H4.out]
     have HE:=Lib.hid (And.intro hE (And.intro hEl (And.intro hedI (And.intro rcell (And.intro rblk (And.intro hLn hcd))))))
     clear hE hEl hedI rcell rblk hLn hL hrn2 hcd
     go_wp2_with fail
     refine wp_gen (fun Z => FnM W s (.slice ca s.cons.length cc) bs bp B (.slice ua lu.length uc) (.slice ea E.length ec) E Z∧CBx wr.heap.size c (.slice sa sn sc) Z∧∀ q,(Value.slice ea E.length ec).ownBlock = some q→q ≠ wr.heap.size) HV0.out ?_
     intro W5 h5
     obtain ⟨bc,hbc⟩ : ∃ b,b = wr.heap.size:=⟨_,rfl⟩
     rw [← hbc] at h5 ⊢
     have HV:=Lib.hid h5
     clear h5 hbc HV0
     go_loopw [5,9] (fun ov x wr => ∃ (j : Nat) (ea : Option Addr) (ec : Nat) (F : List (Int × Int)),j ≤ L.length∧x = .int .i64 (j : Int)∧ov = .slice ea F.length ec∧Hid (F = E ++ (L.take j).map (fun x => (c.a,s.vars + x * s.fields + c.f))∧FnM W s (.slice ca s.cons.length cc) bs bp B (.slice ua lu.length uc) (.slice ea F.length ec) F wr∧CBx bc c (.slice sa sn sc) wr∧∀ q,(Value.slice ea F.length ec).ownBlock = some q→q ≠ bc)) (fun _ x _ => L.length - (intOf x).toNat)
     case atStart => exact ⟨0,ea,ec,E,by omega,rfl,rfl,by simp,HV.out⟩
     case round =>
      obtain ⟨j,ea,ec,F,hj,rfl,rfl,hh⟩:=hrel
      have HF:=Lib.hid hh.out
      clear hh
      obtain ⟨d0,d1,d2,d3⟩:=HF.out.2.1.box
      obtain ⟨c0,c1,c2,c3,c4⟩:=HF.out.2.2.1
      have px:=HF.out.2.1.px
      have hbel:=HF.out.2.1.bel
      obtain ⟨uc0,ub0⟩:=HU.out.2.1 rn hrn
      rw [hrv, ← hbel.cell (p:=⟨blk ua,ofs ua + rn,none⟩) ub0] at uc0
      by_cases hjt : j < L.length
      ·have hjl : (j : Int) < (L.length : Int):=by omega
       obtain ⟨x,hx⟩ : ∃ x,x = nth L j:=⟨_,rfl⟩
       have xc:=HE.out.2.2.2.1 j hjt
       have hxb:=HE.out.2.2.2.2.2.1 _ (nth_mem _ _ hjt)
       have hrb:=HE.out.2.2.2.2.1 j hjt
       rw [← hbel.cell (p:=⟨blk ra,ofs ra + j,none⟩) hrb] at xc
       rw [← hx] at xc hxb
       have rij:=ri .i64 (j : Int) (by omega) (by omega)
       rw [Int.toNat_natCast] at rij
       have hFl : F.length ≤ 3000:=by rw [HF.out.1,List.length_append,List.length_map,List.length_take]; have:=HE.out.2.1; omega
       obtain ⟨m,hm⟩ : ∃ m,m = x * s.fields:=⟨_,rfl⟩
       have hm0 : 0 ≤ m:=by rw [hm]; exact Int.mul_nonneg hxb.1 hv2
       have hm1 : m ≤ 60:=by
        have h : x * s.fields ≤ 12 * 5:=Int.mul_le_mul (by omega) (by omega) (by omega) (by omega)
        omega
       have w1 : IntKind.i64.wrap (x * s.fields) = m:=by rw [← hm]; exact IntWalk.i64_in _ (by omega)
       have w2 : IntKind.i64.wrap (s.vars + m) = s.vars + m:=IntWalk.i64_in _ (by omega)
       have w3 : IntKind.i64.wrap (s.vars + m + c.f) = s.vars + m + c.f:=IntWalk.i64_in _ (by omega)
       have HX:=Lib.hid (And.intro hx (And.intro hm (And.intro ub0 hrb)))
       have HS0:=Lib.hid (show wr.drew.cell? ⟨bs,0,none⟩ = some (.int .i64 s.vars)∧wr.drew.cell? ⟨bs,2,none⟩ = some (.int .i64 s.fields)∧wr.drew.cell? ⟨bp,0,none⟩ = some (.slice ua lu.length uc)∧wr.drew.cell? ⟨bc,1,none⟩ = some (.int .i64 c.a)∧wr.drew.cell? ⟨bc,2,none⟩ = some (.int .i64 c.b)∧wr.drew.cell? ⟨bc,3,none⟩ = some (.int .i64 c.f)∧wr.drew.cell? ⟨blk ua,ofs ua + rn,none⟩ = some (.slice ra L.length rc)∧wr.drew.cell? ⟨blk ra,ofs ra + j,none⟩ = some (.int .i64 x) from ⟨d0,d2,px,c1,c2,c3,uc0,xc⟩)
       clear hx hm hrb hxb hbel
       go_wp2_with fail
       clear d0 d1 d2 d3 c0 c1 c2 c3 c4 px uc0 xc
       refine wp_region_mix [0,1,2,3,4,5,6,7,8,9,10,11,12,13,14,15,16,17,18,19,20,21] [22,23,24] (fun w' => w'.cell? ⟨bs,0,none⟩ = some (.int .i64 s.vars)∧w'.cell? ⟨bs,2,none⟩ = some (.int .i64 s.fields)∧w'.cell? ⟨bp,0,none⟩ = some (.slice ua lu.length uc)∧w'.cell? ⟨bc,1,none⟩ = some (.int .i64 c.a)∧w'.cell? ⟨bc,2,none⟩ = some (.int .i64 c.b)∧w'.cell? ⟨bc,3,none⟩ = some (.int .i64 c.f)∧w'.cell? ⟨blk ua,ofs ua + rn,none⟩ = some (.slice ra L.length rc)∧w'.cell? ⟨blk ra,ofs ra + j,none⟩ = some (.int .i64 x)) (by kernel_rfl) (by kernel_rfl) (by kernel_rfl) HS0.out ?_
       repeat (
        refine wpHeads_cons (v:=?_) rfl (Or.inl ⟨by rfl, ?_⟩) ?_
        rotate_left
        ·(intro W hW; obtain ⟨x1,x2,x3,x4,x5,x6,x7,x8⟩:=hW; go_simp; try with_reducible rfl)
        simp only [Act.put,List.setIfInBounds_toArray,List.getElem_toArray,List.getElem_cons_zero,List.getElem_cons_succ,List.set_cons_succ,List.set_cons_zero])
       refine wpHeads_nil ?_
       refine wpTails_cons rfl ?_
       go_wp2_with fail
       have hB:=grownBy_alloc wr.drew (.cells #[.int .i64 c.a,.int .i64 (s.vars + m + c.f)] 60)
       have hA:=grownBy_trans (grownBy_drew0 wr) hB
       have HSA:=Lib.hid (And.intro (hB.cell HS0.out.1 (by simp)) (And.intro (hB.cell HS0.out.2.1 (by simp)) (And.intro (hB.cell HS0.out.2.2.1 (by simp)) (And.intro (hB.cell HS0.out.2.2.2.1 (by simp)) (And.intro (hB.cell HS0.out.2.2.2.2.1 (by simp)) (And.intro (hB.cell HS0.out.2.2.2.2.2.1 (by simp)) (And.intro (hB.cell HS0.out.2.2.2.2.2.2.1 (by simp)) (hB.cell HS0.out.2.2.2.2.2.2.2 (by simp)))))))))
       have HA:=Lib.hid (And.intro (HF.out.2.1.grown hA) (HF.out.2.2.1.grown hA (by simp)))
       clear hA hB HS0
       refine tail_mk HSA.out ?_
       refine wpTails_cons rfl ?_
       refine wp_appendE (E:=elE) sEdge rfl rfl _ _ rfl (v:=.slice ea F.length ec) (l:=F) (base:=B) rfl wr.heap.size rfl HA.out.1.own (c.a,s.vars + m + c.f) (cells_new (W:=wr.drew) (cs:=[.int .i64 c.a,.int .i64 (s.vars + m + c.f)]) (t:=60) rfl) (by omega) (by omega) HA.out.1.lt.2.2.2 ?_
       intro v' w3 hown hgr hat
       obtain ⟨s9,c9,rfl⟩:=hown.shape (n:=F.length + 1) (by simp)
       have hrow:=HA.out.1.row
       have hlt:=HA.out.1.lt
       have nb : ∀ q : Nat,q < B→some q ≠ (Value.slice ea F.length ec).ownBlock:=fun q hq e => by have:=(hrow q e.symm).1; omega
       have nbc : some bc ≠ (Value.slice ea F.length ec).ownBlock:=fun e => HF.out.2.2.2 bc e.symm rfl
       have hbcs:=World.block_lt_of_cell? _ _ HF.out.2.2.1.1
       have hC:=HA.out.2.grown hgr nbc
       have hub:=HX.out.2.2
       have hS3:=And.intro (hgr.cell HSA.out.1 (nb _ hlt.1)) (And.intro (hgr.cell HSA.out.2.1 (nb _ hlt.1)) (And.intro (hgr.cell HSA.out.2.2.1 (nb _ hlt.2.1)) (And.intro (hgr.cell HSA.out.2.2.2.1 nbc) (And.intro (hgr.cell HSA.out.2.2.2.2.1 nbc) (And.intro (hgr.cell HSA.out.2.2.2.2.2.1 nbc) (And.intro (hgr.cell HSA.out.2.2.2.2.2.2.1 (nb _ (Nat.lt_of_lt_of_le hub.1 hlt.2.2.1))) (hgr.cell HSA.out.2.2.2.2.2.2.2 (nb _ (Nat.lt_of_lt_of_le hub.2 hlt.2.2.1)))))))))
       have hne : ∀ q,(Value.slice s9 (F.length + 1) c9).ownBlock = some q→q ≠ bc:=fun q hq => by
        rcases hat with h | h
        ·rw [h] at hq; exact HF.out.2.2.2 q hq
        ·rw [h] at hq; simp at hq hbcs; omega
       have HR:=Lib.hid (And.intro (HA.out.1.push hown hgr) (And.intro hC hne))
       clear hown hgr hat hrow hlt nb nbc hbcs hC hub hne
       refine tail_mk hS3 ?_
       clear hS3
       refine wpTails_one rfl ?_
       go_wp2_with fail
       refine thenQ_mk ?_
       go_wp2_with fail
       go_roundw
       case rel => exact ⟨j + 1,s9,c9,F ++ [(c.a,s.vars + m + c.f)],by omega,by go_num,by simp,by
        rw [take_snoc _ _ hjt,List.map_append, ← List.append_assoc, ← HF.out.1, ← HX.out.1]
        simp [HX.out.2.1],by rw [List.length_append]; exact HR.out.1,HR.out.2.1,by rw [List.length_append]; exact HR.out.2.2⟩
       case measure => simp [intOf]; omega
      ·obtain rfl : j = L.length:=by omega
       have HG:=Lib.hid (And.intro (show F = E ++ edI s lu c by rw [HF.out.1,List.take_length,HE.out.2.2.1]) HF.out.2.1)
       clear HF
       go_wp2_with fail
       go_roundw
       case rel => exact ⟨k + 1,ea,ec,by omega,by go_num,by rw [HD.out.2.2.1,HG.out.1],by rw [HD.out.2.2.1, ← HG.out.1]; exact HG.out.2⟩
       case measure => simp [intOf]; omega
    ·have t4 : (c.k == 4) = false:=by simpa using h4
     have hnil : edI s lu c = []:=by unfold edI; rw [if_neg h3,if_neg h4]
     have HN:=Lib.hid hnil
     clear hnil h3 h4
     go_wp2_with fail
     go_roundw
     case rel => exact ⟨k + 1,ea,ec,by omega,by go_num,by rw [HD.out.2.2.1,HN.out,List.append_nil],by rw [HD.out.2.2.1,HN.out,List.append_nil]; exact HV0.out.1⟩
     case measure => simp [intOf]; omega
  ·obtain rfl : k = s.cons.length:=by omega
   have HF:=Lib.hid hh.out
   clear hh
   go_wp2_with fail
   go_ret
   exact ⟨⟨_,rfl,own_pairs HF.out.own⟩,HF.out.bel⟩
end Go.Proofs.YtgblfjccccdidaaGreat
end
section
namespace Go.Clp
open Go.Dfl (nth nth_set nth_mem mem_nth nth_eq nth_ext nth_append nth_out take_snoc)
open Go.Tj (Rt Sc IsHd)
def RtP (E : Nat→Nat→Prop) (a b : Nat) : Prop:=∃ x,E a x∧Rt E x b
theorem RtP.step {E : Nat→Nat→Prop} {a b c : Nat} (h : RtP E a b) (k : E b c) : RtP E a c:=h.imp fun _ h => ⟨h.1,.step h.2 k⟩
def falses (l : List Bool) : Nat:=(l.filter fun b => !b).length
theorem falses_set : ∀ {l : List Bool} {i : Nat},i < l.length→nth l i = false→falses (l.set i true) + 1 = falses l
 | [],i,h,_ => by simp at h
 | b :: l,0,_,h => by
   have : b = false:=h
   subst this
   simp [falses]
 | b :: l,i + 1,h,h0 => by
   have:=falses_set (l:=l) (i:=i) (by simpa using h) h0
   unfold falses at this ⊢
   cases b <;> simp <;> omega
structure RcI (es : List (Int × Int)) (v n : Nat) (l0 l : List Bool) (k : Nat) (m : Bool) : Prop where
 len : l.length = n
 snd : ∀ w,w < n→nth l w = true→RtP (eI es) v w
 ok : m = false→l = l0∧∀ j,j < k→((nth es j).1 = (v : Int) ∨ nth l (nth es j).1.toNat = true)→nth l (nth es j).2.toNat = true
 dec : m = true→falses l < falses l0
theorem RcI.start {es : List (Int × Int)} {v n : Nat} {l : List Bool} (h1 : l.length = n) (h2 : ∀ w,w < n→nth l w = true→RtP (eI es) v w) : RcI es v n l l 0 false :=
 ⟨h1,h2,fun _ => ⟨rfl,fun j hj => by omega⟩,fun h => by cases h⟩
theorem RcI.skip {es : List (Int × Int)} {v n : Nat} {l0 l : List Bool} {k : Nat} {m : Bool} (h : RcI es v n l0 l k m) (hs : ((nth es k).1 = (v : Int) ∨ nth l (nth es k).1.toNat = true)→nth l (nth es k).2.toNat = true) : RcI es v n l0 l (k + 1) m :=
 ⟨h.len,h.snd,fun hm => ⟨(h.ok hm).1,fun j hj => by
  by_cases e : j = k
  ·subst e; exact hs
  ·exact (h.ok hm).2 j (by omega)⟩,h.dec⟩
theorem RcI.put {es : List (Int × Int)} {v n : Nat} {l0 l : List Bool} {k : Nat} {m : Bool} (h : RcI es v n l0 l k m) (hk : k < es.length) (hr : 0 ≤ (nth es k).1∧(nth es k).1 < n∧0 ≤ (nth es k).2∧(nth es k).2 < n)
  (hs : (nth es k).1 = (v : Int) ∨ nth l (nth es k).1.toNat = true) (hn : nth l (nth es k).2.toNat = false) : RcI es v n l0 (l.set (nth es k).2.toNat true) (k + 1) true:=by
 have hE : eI es (nth es k).1.toNat (nth es k).2.toNat:=by
  unfold eI
  rw [Int.toNat_of_nonneg hr.1,Int.toNat_of_nonneg hr.2.2.1]
  exact nth_mem _ _ hk
 have hf:=falses_set (l:=l) (i:=(nth es k).2.toNat) (by rw [h.len]; omega) hn
 refine ⟨by rw [List.length_set]; exact h.len,fun w hw hwt => ?_,fun hm => (by cases hm),fun _ => ?_⟩
 ·rw [nth_set] at hwt
  by_cases e : (nth es k).2.toNat = w
  ·subst e
   rcases hs with hs | hs
   ·exact ⟨_,by rw [hs,Int.toNat_natCast] at hE; exact hE,.refl _⟩
   ·exact (h.snd _ (by omega) hs).step hE
  ·rw [if_neg (fun hh => e hh.1)] at hwt
   exact h.snd w hw hwt
 ·cases m
  ·have:=(h.ok rfl).1
   subst this; omega
  ·have:=h.dec rfl
   omega
theorem RcI.full {es : List (Int × Int)} {v n : Nat} {l : List Bool} (h2 : ∀ w,w < n→nth l w = true→RtP (eI es) v w)
  (hc : ∀ j,j < es.length→((nth es j).1 = (v : Int) ∨ nth l (nth es j).1.toNat = true)→nth l (nth es j).2.toNat = true) {w : Nat} (hw : w < n) : nth l w = true ↔ RtP (eI es) v w:=by
 refine ⟨h2 w hw,fun ⟨x,hx,hrt⟩ => ?_⟩
 have step : ∀ a b,eI es a b→(a = v ∨ nth l a = true)→nth l b = true:=fun a b hab ha => by
  obtain ⟨j,hj,he⟩:=mem_nth hab
  have:=hc j hj
  rw [he] at this
  dsimp only at this
  rw [Int.toNat_natCast,Int.toNat_natCast] at this
  exact this (ha.imp (fun e => by rw [e]) id)
 exact hrt.closed (P:=fun y => nth l y = true) (fun a b ha hab => step a b hab (.inr ha)) (step v x hx (.inl rfl))
end Go.Clp
namespace Go.Proofs.YtgblfjccccdidaaGreat
open Go.RowKit Go.Dfl Go.Clp Go.Tj
theorem sBoolR : SliceOf Tryz.prog 81 4 (.bool false) 1 1:=⟨Tryz.underlying81,info_parts (P:=Tryz.prog) (e:=4) (by kernel_rfl)⟩
abbrev OwnR (w : World) (base : Nat) (v : Value) (l : List Bool) : Prop:=Go.Dfl.Own Value.bool w base 4 v l
theorem own_boolR {w : World} {base : Nat} {s : Option Addr} {n cap : Nat} {l : List Bool} (h : OwnR w base (.slice s n cap) l) (hl : l.length = n) {x : Nat} (hx : x < n) :
  w.cell? ⟨blk s,ofs s + x,none⟩ = some (.bool (nth l x))∧(∀ Y,(Instr.indexAt 81 (.slice s n cap) (.int .i64 (x : Int))).run Tryz.prog Y = .ok (.pointer (some ⟨blk s,ofs s + x,none⟩)) Y)∧w.frozen? ⟨blk s,ofs s + x,none⟩ = false∧base ≤ blk s∧blk s < w.heap.size:=by
 obtain ⟨a9,c9,he,hm9,hidx,hcell, -⟩:=h.lst.out1 sBoolR
 rw [hl] at he hm9 hidx hcell
 simp only [Value.slice.injEq] at he
 obtain ⟨rfl, -,rfl⟩:=he
 have hob : (Value.slice s n cap).ownBlock = some (blk s):=by
  obtain ⟨-,⟨h2,h3⟩ | ⟨q,cap2,cur,hv, -⟩⟩:=h
  ·rw [hl] at h3; omega
  ·simp only [Value.slice.injEq] at hv
   obtain ⟨rfl, -, -⟩:=hv; rfl
 exact ⟨hcell x hx,fun Y => by have:=hidx .i64 (x : Int) (by omega) (by omega) Y; rw [Int.toNat_natCast] at this; exact this,h.frozen (by omega) _,h.lt _ hob⟩
def ReachR (n : Nat) (es : List (Int × Int)) (v : Nat) (W : World) (e : Ending) (W' : World) : Prop :=
 ∃ a c l,e = .returned (.slice a n c)∧OwnR W' W.heap.size (.slice a n c) l∧l.length = n∧(∀ w,w < n→(nth l w = true ↔ RtP (eI es) v w))∧Below W.heap.size W W'
set_option maxHeartbeats 6400000 in
set_option maxRecDepth 100000 in
theorem rReach_any (n : Nat) (ev : Value) (es : List (Int × Int)) (v : Nat) (W : World) (h : Pairs W ev es) (hr : ∀ e ∈ es,0 ≤ e.1∧e.1 < n∧0 ≤ e.2∧e.2 < n) (hn : n ≤ 100000) :
  Calls Tryz.prog 54 #[.int .i64 (n : Int),ev,.int .i64 (v : Int)] W (ReachR n es v W):=by
 obtain ⟨ea,ec,rfl,hem,hei,hec⟩:=pairs_rd h
 have HE:=Lib.hid (And.intro hec hr)
 clear h hr hec
 go_enter Tryz.func54,Tryz.ntmps54
 go_wp2_with (at_make; refine wp_make (f:=Value.bool) false sBoolR rfl _ rfl _ _ rfl .i64 .i64 _ _ n rfl rfl rfl rfl (by omega) (by unfold maxLen; omega) ?_)
 intro s cap W1 hrow hb1
 have H1:=Lib.hid (And.intro hrow hb1)
 clear hrow hb1
 go_wp2_with fail
 go_loopg [8,9,10] (n + 1) (fun g x _ _ wr => ∃ (l : List Bool) (m : Bool),x = .bool m∧Hid (g = if m = true then falses l + 1 else 0)∧Hid (OwnR wr W.heap.size (.slice s n cap) l∧Below W.heap.size W wr∧l.length = n∧(∀ w,w < n→nth l w = true→RtP (eI es) v w)∧(m = false→∀ j,j < es.length→((nth es j).1 = (v : Int) ∨ nth l (nth es j).1.toNat = true)→nth l (nth es j).2.toNat = true)))
 case atStart => exact ⟨List.replicate n false,true,rfl,Lib.hid (by simp [falses]),H1.out.1,H1.out.2,by simp,fun w hw h => (by
  rw [nth_eq _ _ (by simpa using hw)] at h; simp at h),fun h => by cases h⟩
 case round =>
  obtain ⟨l,m,rfl,hg,hh⟩:=hrel
  cases m
  ·go_wp2_with fail
   go_ret
   exact ⟨s,cap,l,rfl,hh.out.1,hh.out.2.2.1,fun w hw => RcI.full hh.out.2.2.2.1 (hh.out.2.2.2.2 (by simp)) hw,hh.out.2.1⟩
  ·have HH:=Lib.hid hh.out
   clear hh
   go_wp2_with fail
   go_loopw [8,9,10] (fun x y _ wr2 => ∃ (k : Nat) (l2 : List Bool) (m : Bool),k ≤ es.length∧y = .int .i64 k∧x = .bool m∧Hid ((OwnR wr2 W.heap.size (.slice s n cap) l2∧Below W.heap.size W wr2)∧RcI es v n l l2 k m)) (fun _ y _ _ => es.length - (intOf y).toNat)
   case atStart => exact ⟨0,l,false,by omega,rfl,rfl,⟨HH.out.1,HH.out.2.1⟩,RcI.start HH.out.2.2.1 HH.out.2.2.2.1⟩
   case round =>
    obtain ⟨k,l2,m,hk,rfl,rfl,hh⟩:=hrel
    have HK:=Lib.hid hh.out
    clear hh
    by_cases hlt : k < es.length
    ·have hr:=HE.out.2 _ (nth_mem es k hlt)
     obtain ⟨c0,c1⟩:=(HE.out.1 k hlt).2 _ HK.out.1.2
     have hi:=hei (k : Int) (by omega) (by omega)
     rw [Int.toNat_natCast] at hi
     have hlb : blk ea < wr.heap.size:=World.block_lt_of_cell? wr ⟨blk ea,ofs ea + k * 2,none⟩ c0
     have HR:=Lib.hid hr
     obtain ⟨x,hx⟩ : ∃ x : Nat,(nth es k).1 = (x : Int):=⟨(nth es k).1.toNat,by omega⟩
     obtain ⟨y,hy⟩ : ∃ y : Nat,(nth es k).2 = (y : Int):=⟨(nth es k).2.toNat,by omega⟩
     rw [hx] at c0 hr
     rw [hy] at c1 hr
     have HXY:=Lib.hid (And.intro hx hy)
     have hxn : x < n:=by omega
     have hyn : y < n:=by omega
     clear hx hy hr
     obtain ⟨x0,ix, -, -,hbs⟩:=own_boolR HK.out.1.1 HK.out.2.len hxn
     obtain ⟨y0,iy,fy,hwb, -⟩:=own_boolR HK.out.1.1 HK.out.2.len hyn
     have hbn : blk s ≠ wr.heap.size:=by omega
     have hbel:=(HK.out.1.2.alloc HK.out.1.2.size (.cells #[.int .i64 (x : Int),.int .i64 (y : Int)] 60))
     have HB:=Lib.hid (And.intro (HK.out.1.1.alloc (.cells #[.int .i64 (x : Int),.int .i64 (y : Int)] 60)) (And.intro hbel hwb))
     obtain ⟨bx,hbx⟩ : ∃ b,b = nth l2 x:=⟨_,rfl⟩
     obtain ⟨b,hb⟩ : ∃ b,b = nth l2 y:=⟨_,rfl⟩
     rw [← hbx] at x0
     rw [← hb] at y0
     have HBX:=Lib.hid (And.intro hbx hb)
     clear hbx hb hbel hwb
     by_cases hxv : x = v
     ·have t1 : ((x : Int) == (v : Int)) = true:=by rw [beq_iff_eq]; omega
      have HS:=Lib.hid (show (nth es k).1 = (v : Int) ∨ nth l2 (nth es k).1.toNat = true from .inl (by rw [HXY.out.1,hxv]))
      clear hxv
      cases b
      ·go_wp2_with fail
       go_roundw
       case rel =>
        have hput:=HK.out.2.put hlt HR.out HS.out (by rw [HXY.out.2,Int.toNat_natCast, ← HBX.out.2])
        rw [HXY.out.2,Int.toNat_natCast] at hput
        exact ⟨k + 1,_,true,by omega,by go_num,rfl,⟨(HK.out.1.1.set y true).alloc _,(HK.out.1.2.setCell (p:=⟨blk s,ofs s + y,none⟩) HB.out.2.2 _).alloc (by simp only [World.size_setCell]; exact HK.out.1.2.size) _⟩,hput⟩
       case measure => simp [intOf]; omega
      ·go_wp2_with fail
       go_roundw
       case rel => exact ⟨k + 1,l2,m,by omega,by go_num,rfl,⟨HB.out.1,HB.out.2.1⟩,HK.out.2.skip fun _ => by rw [HXY.out.2,Int.toNat_natCast, ← HBX.out.2]⟩
       case measure => simp [intOf]; omega
     ·have t1 : ((x : Int) == (v : Int)) = false:=by rw [beq_eq_false_iff_ne]; omega
      have HXV:=Lib.hid hxv
      clear hxv
      cases bx
      ·go_wp2_with fail
       go_roundw
       case rel => exact ⟨k + 1,l2,m,by omega,by go_num,rfl,⟨HB.out.1,HB.out.2.1⟩,HK.out.2.skip fun h => by
        rcases h with h | h
        ·rw [HXY.out.1] at h; exact absurd (by omega) HXV.out
        ·rw [HXY.out.1,Int.toNat_natCast, ← HBX.out.1] at h; cases h⟩
       case measure => simp [intOf]; omega
      ·have HS:=Lib.hid (show (nth es k).1 = (v : Int) ∨ nth l2 (nth es k).1.toNat = true from .inr (by rw [HXY.out.1,Int.toNat_natCast, ← HBX.out.1]))
       cases b
       ·go_wp2_with fail
        go_roundw
        case rel =>
         have hput:=HK.out.2.put hlt HR.out HS.out (by rw [HXY.out.2,Int.toNat_natCast, ← HBX.out.2])
         rw [HXY.out.2,Int.toNat_natCast] at hput
         exact ⟨k + 1,_,true,by omega,by go_num,rfl,⟨(HK.out.1.1.set y true).alloc _,(HK.out.1.2.setCell (p:=⟨blk s,ofs s + y,none⟩) HB.out.2.2 _).alloc (by simp only [World.size_setCell]; exact HK.out.1.2.size) _⟩,hput⟩
        case measure => simp [intOf]; omega
       ·go_wp2_with fail
        go_roundw
        case rel => exact ⟨k + 1,l2,m,by omega,by go_num,rfl,⟨HB.out.1,HB.out.2.1⟩,HK.out.2.skip fun _ => by rw [HXY.out.2,Int.toNat_natCast, ← HBX.out.2]⟩
        case measure => simp [intOf]; omega
    ·obtain rfl : k = es.length:=by omega
     go_wp2_with fail
     go_roundg (if m = true then falses l2 + 1 else 0)
     case rel => exact ⟨l2,m,rfl,Lib.hid rfl,HK.out.1.1,HK.out.1.2,HK.out.2.len,HK.out.2.snd,fun hm j hj => (HK.out.2.ok hm).2 j hj⟩
     case measure =>
      rw [hg.out]
      cases m
      ·simp
      ·have:=HK.out.2.dec rfl
       simp; omega
end Go.Proofs.YtgblfjccccdidaaGreat
end
section
namespace Go.Clp
open Go.Dfl (nth nth_set nth_mem mem_nth nth_eq nth_ext nth_append nth_out take_snoc)
open Go.Tj (Rt Sc IsHd)
def Bth (E : Nat→Nat→Prop) (v w : Nat) : Prop:=RtP E v w∧RtP E w v
theorem rt_rtp {E : Nat→Nat→Prop} {a b : Nat} (h : Rt E a b) : a = b ∨ RtP E a b:=by
 induction h with
 | refl => exact .inl rfl
 | step _ h2 ih =>
   rcases ih with rfl | ⟨x,hx,hr⟩
   ·exact .inr ⟨_,h2,.refl _⟩
   ·exact .inr ⟨x,hx,.step hr h2⟩
theorem RtP.rt {E : Nat→Nat→Prop} {a b : Nat} (h : RtP E a b) : Rt E a b:=by
 obtain ⟨x,hx,hr⟩:=h
 exact (Rt.one hx).trans hr
structure LdI (E : Nat→Nat→Prop) (v j lead : Nat) : Prop where
 le : lead ≤ v
 at' : lead = v ∨ (j ≤ lead∧Bth E v lead)
 non : ∀ w,j ≤ w→w < lead→¬ Bth E v w
theorem LdI.start (E : Nat→Nat→Prop) {v n : Nat} (h : v < n) : LdI E v n v:=⟨Nat.le_refl _,.inl rfl,fun w h1 h2 => by omega⟩
theorem LdI.take {E : Nat→Nat→Prop} {v j lead : Nat} (h : LdI E v (j + 1) lead) (hl : j < lead) (hb : Bth E v j) : LdI E v j j:=⟨by have:=h.le; omega,.inr ⟨Nat.le_refl _,hb⟩,fun w h1 h2 => by omega⟩
theorem LdI.skip {E : Nat→Nat→Prop} {v j lead : Nat} (h : LdI E v (j + 1) lead) (hb : j < lead→¬ Bth E v j) : LdI E v j lead:=⟨h.le,h.at'.imp id fun ⟨a,b⟩ => ⟨by omega,b⟩,fun w h1 h2 => by
 by_cases e : w = j
 ·subst e; exact hb h2
 ·exact h.non w (by omega) h2⟩
theorem LdI.hd {E : Nat→Nat→Prop} {v lead : Nat} (h : LdI E v 0 lead) : IsHd E v lead:=by
 refine ⟨?_,fun w hw => ?_⟩
 ·rcases h.at' with e | ⟨-,b⟩
  ·rw [e]; exact Sc.refl E v
  ·exact ⟨b.1.rt,b.2.rt⟩
 ·false_or_by_contra
  have hlt : w < lead:=by omega
  have hne : v ≠ w:=by have:=h.le; omega
  refine h.non w (by omega) hlt ⟨(rt_rtp hw.1).resolve_left hne,(rt_rtp hw.2).resolve_left (Ne.symm hne)⟩
def MkR (es : List (Int × Int)) (n k : Nat) (ll : List (List Bool)) : Prop:=ll.length = k∧∀ v,v < k→(nth ll v).length = n∧∀ w,w < n→(nth (nth ll v) w = true ↔ RtP (eI es) v w)
theorem MkR.push {es : List (Int × Int)} {n k : Nat} {ll : List (List Bool)} {l : List Bool} (h : MkR es n k ll) (h1 : l.length = n) (h2 : ∀ w,w < n→(nth l w = true ↔ RtP (eI es) k w)) : MkR es n (k + 1) (ll ++ [l]):=by
 refine ⟨by rw [List.length_append,h.1]; rfl,fun v hv => ?_⟩
 rw [nth_append,h.1]
 by_cases e : v < k
 ·rw [if_pos e]; exact h.2 v e
 ·have : v = k:=by omega
  subst this
  rw [if_neg e,Nat.sub_self]
  exact ⟨h1,h2⟩
def LdsK (E : Nat→Nat→Prop) (k : Nat) (l : List Int) : Prop:=l.length = k∧∀ v,v < k→∃ m : Nat,nth l v = (m : Int)∧IsHd E v m
theorem LdsK.push {E : Nat→Nat→Prop} {k m : Nat} {l : List Int} (h : LdsK E k l) (hm : IsHd E k m) : LdsK E (k + 1) (l ++ [(m : Int)]):=by
 refine ⟨by rw [List.length_append,h.1]; rfl,fun v hv => ?_⟩
 rw [nth_append,h.1]
 by_cases e : v < k
 ·rw [if_pos e]; exact h.2 v e
 ·have : v = k:=by omega
  subst this
  rw [if_neg e,Nat.sub_self]
  exact ⟨m,rfl,hm⟩
end Go.Clp
namespace Go.Proofs.YtgblfjccccdidaaGreat
open Go.RowKit Go.Dfl Go.Clp Go.Tj
theorem sBoolsR : SliceOf Tryz.prog 80 81 (.slice none 0 0) 1 24:=⟨Tryz.underlying80,info_parts (P:=Tryz.prog) (e:=81) (by kernel_rfl)⟩
theorem kOwnR : Kind OwnR:=Kind.own _ _
def LeadR (n : Nat) (es : List (Int × Int)) (W : World) (e : Ending) (W' : World) : Prop :=
 ∃ rv l,e = .returned rv∧Ints W' rv l∧Lds (eI es) n l∧Below W.heap.size W W'
set_option maxHeartbeats 6400000 in
set_option maxRecDepth 100000 in
theorem rLeaders_any (n : Nat) (ev : Value) (es : List (Int × Int)) (W : World) (h : Pairs W ev es) (hr : ∀ e ∈ es,0 ≤ e.1∧e.1 < n∧0 ≤ e.2∧e.2 < n) (hn : n ≤ 100000) :
  Calls Tryz.prog 28 #[.int .i64 (n : Int),ev] W (LeadR n es W):=by
 obtain ⟨ea,ec,rfl, -, -, -⟩:=pairs_rd h
 have HE:=Lib.hid (And.intro h hr)
 clear h hr
 go_enter Tryz.func28,Tryz.ntmps28
 go_wp2_with fail
 go_loopw [5,6] (fun lv x wr => ∃ (k : Nat) (la : Option Addr) (lc : Nat) (vs : List Value) (ll : List (List Bool)),k ≤ n∧x = .int .i64 (k : Int)∧lv = .slice la k lc∧Hid (OwnN OwnR wr W.heap.size 81 (.slice la k lc) vs ll∧MkR es n k ll∧Below W.heap.size W wr)) (fun _ x _ => n - (intOf x).toNat)
 case atStart => exact ⟨0,none,0, [], [],by omega,rfl,rfl,OwnN.empty _ _ _,⟨rfl,fun v hv => by omega⟩,Below.refl _ _⟩
 case round =>
  obtain ⟨k,la,lc,vs,ll,hk,rfl,rfl,hh⟩:=hrel
  have HL:=Lib.hid hh.out
  clear hh
  by_cases hlt : k < n
  ·have hkl : (k : Int) < (n : Int):=by omega
   go_wp2_with fail
   refine (rReach_any n (.slice ea es.length ec) es k _ (HE.out.1.below HL.out.2.2) HE.out.2 hn).mono ?_
   rintro e W2 ⟨a2,c2,l2,rfl,ho2,hl2,hm2,b2⟩
   have hout:=HL.out.1.below kOwnR b2
   have hvl:=hout.len
   rw [HL.out.2.1.1] at hvl
   have hfo : ∀ q,(Value.slice a2 n c2).ownBlock = some q→¬ Foot (.slice la k lc) vs q:=fun q e hf => by
    have h9:=(ho2.lt q e).1
    have h10:=(HL.out.1.foot kOwnR q hf).2
    omega
   have hbl:=HL.out.2.2.trans (b2.mono HL.out.2.2.size)
   have hrw:=ho2.mono HL.out.2.2.size
   have HO2:=Lib.hid (And.intro hout (And.intro hbl (And.intro hfo (And.intro hrw (And.intro hvl (HL.out.2.1.push hl2 hm2))))))
   have HLEN : Hid (vs.length + [(Value.slice a2 n c2)].length < 5864062014805):=Lib.hid (by rw [List.length_singleton]; omega)
   have HCL:=Lib.hid ((hout.out).alloc (.cells #[.slice a2 n c2] 81))
   have hsz:=hbl.size
   clear hout hvl hbl hfo hrw ho2 hl2 hm2 b2
   go_wp2_with (at_builtin; refine wp_appendS (f:=fun x : Value => x) sBoolsR rfl rfl _ _ rfl W.heap.size (.slice la k lc) vs rfl (.slice (some ⟨W2.heap.size,0,none⟩) 1 1) [.slice a2 n c2] rfl HCL.out (src_one (fun x : Value => x) (cell_alloc1 W2 (.slice a2 n c2) 81)) (fun y hy => by rw [List.mem_singleton.1 hy]; rfl) HLEN.out (Nat.le_refl _) (le_alloc _ hsz) ?_; intro v' w3 hown hgr hat; obtain ⟨s9,c9,rfl⟩:=hown.shape (n:=k + 1) (by rw [List.length_append,HO2.out.2.2.2.2.1]; rfl); have HO:=Lib.hid (And.intro hown (And.intro hgr hat)); clear hown hgr hat)
   have hbA:=(Below.refl W2.heap.size W2).alloc (Nat.le_refl _) (.cells #[.slice a2 n c2] 81)
   have hpush:=(HO2.out.1.below kOwnR hbA).push kOwnR HO.out.1 HO.out.2.1 HO.out.2.2 (HO2.out.2.2.2.1.below hbA) HO2.out.2.2.1
   have hbl:=(HO2.out.2.1.alloc hsz (.cells #[.slice a2 n c2] 81)).grown HO.out.2.1 (by rw [World.size_alloc]; omega) (fun q e => (HO2.out.1.out.lt q e).1)
   have HP2:=Lib.hid (And.intro hpush (And.intro HO2.out.2.2.2.2.2 hbl))
   clear hbA hpush hbl
   go_roundw
   case rel => exact ⟨k + 1,s9,c9,_,_,by omega,by go_num,rfl,HP2.out⟩
   case measure => simp [intOf]; omega
  ·obtain rfl : n = k:=by omega
   go_wp2_with fail
   refine wp_gen (fun Z => OwnN OwnR Z W.heap.size 81 (.slice la n lc) vs ll∧MkR es n n ll∧Below W.heap.size W Z) HL.out ?_
   intro Y hY
   have hg:=hY.1.grid
   obtain ⟨la2,lc2,he, -,gi,gcell, -⟩:=hg.1.out1 sBoolsR
   have hvl : vs.length = n:=hg.2.1.trans hY.2.1.1
   rw [hvl] at he gi gcell
   simp only [Value.slice.injEq] at he
   obtain ⟨rfl, -,rfl⟩:=he
   have HG:=Lib.hid (And.intro hg.2.2 (And.intro gcell (And.intro hY.2.1 hY.2.2)))
   have hlb : 0 < n→blk la < Y.heap.size:=fun h0 => World.block_lt_of_cell? Y ⟨blk la,ofs la + 0,none⟩ (gcell 0 h0)
   have HLB:=Lib.hid hlb
   clear HL hk hlt hg gcell hvl hY hlb
   go_loopw [7,8,9,10] (fun lv x _ _ wr => ∃ (k : Nat) (oa : Option Addr) (oc : Nat) (os : List Int),k ≤ n∧x = .int .i64 (k : Int)∧lv = .slice oa k oc∧Hid (Go.Dfl.Own (Value.int .i64) wr Y.heap.size 3 (.slice oa k oc) os∧LdsK (eI es) k os∧Below Y.heap.size Y wr)) (fun _ x _ _ _ => n - (intOf x).toNat)
   case atStart => exact ⟨0,none,0, [],by omega,rfl,rfl,Go.Dfl.Own.nil _ _ _ _,⟨rfl,fun v hv => by omega⟩,Below.refl _ _⟩
   case round =>
    obtain ⟨k,oa,oc,os,hk,rfl,rfl,hh⟩:=hrel
    have HO:=Lib.hid hh.out
    clear hh
    by_cases hlt : k < n
    ·have hkl : (k : Int) < (n : Int):=by omega
     have gck:=HG.out.2.1 k hlt
     rw [← HO.out.2.2.cell (p:=⟨blk la,ofs la + k,none⟩) (HLB.out (by omega))] at gck
     have gik:=gi .i64 (k : Int) (by omega) (by omega)
     rw [Int.toNat_natCast] at gik
     have hrk : Lst Value.bool Y (nth vs k) (nth ll k):=HG.out.1 k (by rw [HG.out.2.2.1.1]; exact hlt)
     obtain ⟨ka,kc,hkv, -,ki,kcell,kblk⟩:=hrk.out1 sBoolR
     have hkn:=(HG.out.2.2.1.2 k hlt).1
     rw [hkn] at hkv ki kcell kblk
     rw [hkv] at gck
     have HK:=Lib.hid (And.intro kcell kblk)
     clear hrk hkv kcell kblk hkn
     refine wp_gen (fun Z => Go.Dfl.Own (Value.int .i64) Z Y.heap.size 3 (.slice oa k oc) os∧LdsK (eI es) k os∧Below Y.heap.size Y Z) HO.out ?_
     intro V hV
     have hbl:=hV.2.2
     rw [HO.out.2.2.cell (p:=⟨blk la,ofs la + k,none⟩) (HLB.out (by omega)), ← hbl.cell (p:=⟨blk la,ofs la + k,none⟩) (HLB.out (by omega))] at gck
     have HV:=Lib.hid hV
     clear hV hbl HO
     go_wp2_with fail
     go_loopw [9,10] (fun x y wr2 => ∃ j lead : Nat,j ≤ n∧lead < n∧y = .int .i64 ((j : Int) - 1)∧x = .int .i64 (lead : Int)∧V = wr2∧Hid (LdI (eI es) k j lead)) (fun _ y _ => (intOf y + 1).toNat)
     case atStart => exact ⟨n,k,Nat.le_refl _,hlt,by go_num,rfl,rfl,LdI.start _ hlt⟩
     case round =>
      obtain ⟨j,lead,hj,hld,rfl,rfl,rfl,hi⟩:=hrel
      have HI:=Lib.hid hi.out
      clear hi
      cases j with
      | zero =>
        have HCL:=Lib.hid (HV.out.1.alloc (.cells #[.int .i64 (lead : Int)] 3))
        have hsz:=HV.out.2.2.size
        have HLEN : Hid (os.length + [(lead : Int)].length < 5864062014805):=Lib.hid (by rw [List.length_singleton,HV.out.2.1.1]; omega)
        go_wp2_with (at_builtin; refine wp_appendS (f:=Value.int .i64) sIntC rfl rfl _ _ rfl Y.heap.size (.slice oa k oc) os rfl (.slice (some ⟨V.heap.size,0,none⟩) 1 1) [(lead : Int)] rfl HCL.out (src_one (Value.int .i64) (cell_alloc1 V (.int .i64 (lead : Int)) 3)) (fun _ _ => rfl) HLEN.out (by omega) (le_alloc _ hsz) ?_; intro v' w3 hown hgr hat; obtain ⟨s9,c9,rfl⟩:=hown.shape (n:=k + 1) (by rw [List.length_append,HV.out.2.1.1]; rfl); have HW:=Lib.hid (And.intro hown (And.intro hgr hat)); clear hown hgr hat)
        have hbl:=(HV.out.2.2.alloc hsz (.cells #[.int .i64 (lead : Int)] 3)).grown HW.out.2.1 (by rw [World.size_alloc]; omega) (fun q e => (HV.out.1.lt q e).1)
        have HP:=Lib.hid (And.intro HW.out.1 (And.intro (HV.out.2.1.push HI.out.hd) hbl))
        clear hbl
        go_roundw
        case rel => exact ⟨k + 1,s9,c9,_,by omega,by go_num,rfl,HP.out⟩
        case measure => simp [intOf]; omega
      | succ i =>
        have e : (((i + 1 : Nat) : Int) - 1) = (i : Int):=by omega
        rw [e]
        clear e
        have hin : i < n:=by omega
        have hin' : (i : Int) < (n : Int):=by omega
        by_cases hil : i < lead
        ·have hil' : (i : Int) < (lead : Int):=by omega
         have gci:=HG.out.2.1 i hin
         rw [← HV.out.2.2.cell (p:=⟨blk la,ofs la + i,none⟩) (HLB.out (by omega))] at gci
         have gii:=gi .i64 (i : Int) (by omega) (by omega)
         rw [Int.toNat_natCast] at gii
         have hri : Lst Value.bool Y (nth vs i) (nth ll i):=HG.out.1 i (by rw [HG.out.2.2.1.1]; exact hin)
         obtain ⟨ia,ic,hiv, -,ii,icell,iblk⟩:=hri.out1 sBoolR
         have hinn:=(HG.out.2.2.1.2 i hin).1
         rw [hinn] at hiv ii icell iblk
         rw [hiv] at gci
         have kb:=HK.out.1 i hin
         rw [← HV.out.2.2.cell (p:=⟨blk ka,ofs ka + i,none⟩) (HK.out.2 i hin)] at kb
         have ib:=icell k hlt
         rw [← HV.out.2.2.cell (p:=⟨blk ia,ofs ia + k,none⟩) (iblk k hlt)] at ib
         have kii:=ki .i64 (i : Int) (by omega) (by omega)
         have iki:=ii .i64 (k : Int) (by omega) (by omega)
         rw [Int.toNat_natCast] at kii iki
         obtain ⟨b1,hb1⟩ : ∃ b,b = nth (nth ll k) i:=⟨_,rfl⟩
         obtain ⟨b2,hb2⟩ : ∃ b,b = nth (nth ll i) k:=⟨_,rfl⟩
         rw [← hb1] at kb
         rw [← hb2] at ib
         have q1:=(HG.out.2.2.1.2 k hlt).2 i hin
         have q2:=(HG.out.2.2.1.2 i hin).2 k hlt
         rw [← hb1] at q1
         rw [← hb2] at q2
         have HQ:=Lib.hid (And.intro q1 q2)
         clear q1 q2 hb1 hb2 hri hiv icell iblk hinn ii
         cases b1
         ·go_wp2_with fail
          go_roundw
          case rel => exact ⟨i,lead,by omega,by omega,by go_num,by first | rfl | trivial,by first | rfl | trivial,HI.out.skip fun _ h => by have:=HQ.out.1.2 h.1; cases this⟩
          case measure => simp [intOf]
         ·cases b2
          ·go_wp2_with fail
           go_roundw
           case rel => exact ⟨i,lead,by omega,by omega,by go_num,by first | rfl | trivial,by first | rfl | trivial,HI.out.skip fun _ h => by have:=HQ.out.2.2 h.2; cases this⟩
           case measure => simp [intOf]
          ·go_wp2_with fail
           go_roundw
           case rel => exact ⟨i,i,by omega,by omega,by go_num,by first | rfl | trivial,by first | rfl | trivial,HI.out.take hil ⟨HQ.out.1.1 rfl,HQ.out.2.1 rfl⟩⟩
           case measure => simp [intOf]
        ·have hil' : ¬ (i : Int) < (lead : Int):=by omega
         go_wp2_with fail
         go_roundw
         case rel => exact ⟨i,lead,by omega,by omega,by go_num,by first | rfl | trivial,by first | rfl | trivial,HI.out.skip fun h => absurd h hil⟩
         case measure => simp [intOf]
    ·obtain rfl : n = k:=by omega
     go_wp2_with fail
     go_ret
     exact ⟨_,os,rfl,HO.out.1.lst,HO.out.2.1,HG.out.2.2.2.trans (HO.out.2.2.mono HG.out.2.2.2.size)⟩
end Go.Proofs.YtgblfjccccdidaaGreat
end
section
namespace Go.And
open Go.Dfl (nth nth_mem mem_nth nth_eq nth_set nth_out)
def tg (M : List (List Bool)) (i x : Nat) : Bool:=nth (nth M i) x
def tput (M : List (List Bool)) (i x : Nat) : List (List Bool):=M.set i ((nth M i).set x true)
def cntB (M : List (List Bool)) : Nat:=(M.map fun r => r.count true).sum
structure Shp (N n : Nat) (M : List (List Bool)) : Prop where
 len : M.length = N
 row : ∀ i,i < N→(nth M i).length = n
theorem sum_set : ∀ (l : List Nat) (i y : Nat) (h : i < l.length),(l.set i y).sum + l[i] = l.sum + y
 | [],_,_,h => by simp at h
 | a :: l,0,y,_ => by simp; omega
 | a :: l,i + 1,y,h => by
   have:=sum_set l i y (by simpa using h)
   simp only [List.set_cons_succ,List.sum_cons,List.getElem_cons_succ]
   omega
theorem count_put : ∀ (r : List Bool) (x : Nat) (h : x < r.length),r[x] = false→(r.set x true).count true = r.count true + 1
 | [],_,h,_ => by simp at h
 | a :: r,0,_,e => by
   have e' : a = false:=e
   subst e'
   simp
 | a :: r,x + 1,h,e => by
   have:=count_put r x (by simpa using h) (by simpa using e)
   simp only [List.set_cons_succ,List.count_cons]
   omega
theorem tput_cnt {N n : Nat} {M : List (List Bool)} (h : Shp N n M) {i x : Nat} (hi : i < N) (hx : x < n) (h0 : tg M i x = false) : cntB (tput M i x) = cntB M + 1:=by
 have hi' : i < M.length:=by rw [h.len]; exact hi
 have hr:=h.row i hi
 unfold cntB tput
 rw [List.map_set]
 have:=sum_set (M.map fun r => r.count true) i (((nth M i).set x true).count true) (by simpa using hi')
 rw [List.getElem_map, ← nth_eq _ _ hi',count_put (nth M i) x (by omega) (by rw [← nth_eq _ _ (by omega)]; exact h0)] at this
 rw [count_put (nth M i) x (by omega) (by rw [← nth_eq _ _ (by omega)]; exact h0)]
 omega
theorem cnt_le : ∀ {n : Nat} (M : List (List Bool)),(∀ r ∈ M,r.length = n)→cntB M ≤ M.length * n
 | _, [],_ => by simp [cntB]
 | n,r :: M,h => by
   have h1:=cnt_le M fun r hr => h r (List.mem_cons_of_mem _ hr)
   have h2 : r.count true ≤ r.length:=List.count_le_length
   have h3:=h r (by simp)
   have h4 : cntB (r :: M) = r.count true + cntB M:=by simp [cntB]
   rw [h4,List.length_cons,Nat.succ_mul]
   omega
theorem Shp.cnt {N n : Nat} {M : List (List Bool)} (h : Shp N n M) : cntB M ≤ N * n:=by
 have:=cnt_le (n:=n) M fun r hr => by
  obtain ⟨i,hi,rfl⟩:=mem_nth hr
  exact h.row i (by rw [← h.len]; exact hi)
 rwa [h.len] at this
theorem tput_shp {N n : Nat} {M : List (List Bool)} (h : Shp N n M) (i x : Nat) : Shp N n (tput M i x):=by
 refine ⟨by simp [tput,h.len],fun j hj => ?_⟩
 unfold tput
 rw [nth_set]
 split
 ·rename_i e; rw [List.length_set,h.row i (by rw [e.1]; exact hj)]
 ·exact h.row j hj
theorem tg_put {N n : Nat} {M : List (List Bool)} (h : Shp N n M) {i x : Nat} (hi : i < N) (hx : x < n) (j y : Nat) : tg (tput M i x) j y = true ↔ (j = i∧y = x) ∨ tg M j y = true:=by
 have hi' : i < M.length:=by rw [h.len]; exact hi
 have hr:=h.row i hi
 unfold tg tput
 rw [nth_set]
 by_cases e : i = j
 ·subst e
  rw [if_pos ⟨rfl,hi'⟩,nth_set]
  by_cases e2 : x = y
  ·subst e2; rw [if_pos ⟨rfl,by omega⟩]; simp
  ·rw [if_neg (by omega)]
   exact ⟨fun h => .inr h,fun h => h.resolve_left fun h => e2 h.2.symm⟩
 ·rw [if_neg (by omega)]
  exact ⟨fun h => .inr h,fun h => h.resolve_left fun h => e h.1.symm⟩
theorem tg_lt {N n : Nat} {M : List (List Bool)} (h : Shp N n M) {i x : Nat} (ht : tg M i x = true) : i < N∧x < n:=by
 have hi : i < N:=by
  rcases Nat.lt_or_ge i N with h1 | h1
  ·exact h1
  ·have : nth M i = []:=nth_out _ _ (by rw [h.len]; exact h1)
   unfold tg at ht; rw [this,nth_out _ _ (by simp)] at ht; cases ht
 refine ⟨hi, ?_⟩
 rcases Nat.lt_or_ge x n with h1 | h1
 ·exact h1
 ·unfold tg at ht; rw [nth_out _ _ (by rw [h.row i hi]; exact h1)] at ht; cases ht
def tp (M : List (List Bool)) : Nat→Nat→Prop:=fun i x => tg M i x = true
def Sub (p q : Nat→Nat→Prop) : Prop:=∀ i x,p i x→q i x
structure TStp (N n : Nat) (F : (Nat→Nat→Prop)→Prop) (M M' : List (List Bool)) (b b' : Bool) : Prop where
 sh : Shp N n M'
 le : Sub (tp M) (tp M')
 cnt : cntB M ≤ cntB M'
 up : b' = true→b = true ∨ cntB M < cntB M'
 same : b' = false→b = false∧M' = M∧F (tp M)
 snd : ∀ p,Sub (tp M) p→F p→Sub (tp M') p
theorem TStp.refl {N n : Nat} {M : List (List Bool)} {b : Bool} {F : (Nat→Nat→Prop)→Prop} (h : Shp N n M) (hF : b = false→F (tp M)) : TStp N n F M M b b :=
 ⟨h,fun _ _ h => h,Nat.le_refl _,fun h => .inl h,fun h => ⟨h,rfl,hF h⟩,fun _ h _ => h⟩
theorem TStp.then {N n : Nat} {F G : (Nat→Nat→Prop)→Prop} {M M' M'' : List (List Bool)} {b b' b'' : Bool} (h : TStp N n F M M' b b') (k : TStp N n G M' M'' b' b'') : TStp N n (fun p => F p∧G p) M M'' b b'':=by
 refine ⟨k.sh,fun i x hx => k.le i x (h.le i x hx),Nat.le_trans h.cnt k.cnt,fun hb => ?_,fun hb => ?_,fun p hp hF => k.snd p (h.snd p hp hF.1) hF.2⟩
 ·rcases k.up hb with h1 | h1
  ·rcases h.up h1 with h2 | h2
   ·exact .inl h2
   ·exact .inr (Nat.lt_of_lt_of_le h2 k.cnt)
  ·exact .inr (Nat.lt_of_le_of_lt h.cnt h1)
 ·obtain ⟨h1,h2,h3⟩:=k.same hb
  obtain ⟨g1,g2,g3⟩:=h.same h1
  subst g2
  exact ⟨g1,h2,g3,h3⟩
theorem TStp.thenW {N n : Nat} {F G : (Nat→Nat→Prop)→Prop} {M M' M'' : List (List Bool)} {b b' b'' : Bool} (h : TStp N n F M M' b b') (k : TStp N n G M' M'' b' b'') (H : (Nat→Nat→Prop)→Prop) (h1 : ∀ p,H p→F p) (h2 : ∀ p,Sub (tp M') p→H p→G p) (h3 : F (tp M)→G (tp M)→H (tp M)) : TStp N n H M M'' b b'':=by
 have t:=h.then k
 refine ⟨t.sh,t.le,t.cnt,t.up,fun hb => ?_,fun p hp hH => ?_⟩
 ·obtain ⟨g1,g2,g3⟩:=t.same hb
  exact ⟨g1,g2,h3 g3.1 g3.2⟩
 ·have s1:=h.snd p hp (h1 p hH)
  exact k.snd p s1 (h2 p s1 hH)
theorem TStp.mono {N n : Nat} {F G : (Nat→Nat→Prop)→Prop} {M M' : List (List Bool)} {b b' : Bool} (h : TStp N n F M M' b b') (h1 : ∀ p,G p→F p) (h2 : F (tp M)→G (tp M)) : TStp N n G M M' b b' :=
 ⟨h.sh,h.le,h.cnt,h.up,fun hb => ⟨(h.same hb).1,(h.same hb).2.1,h2 (h.same hb).2.2⟩,fun p hp hG => h.snd p hp (h1 p hG)⟩
theorem TStp.put {N n : Nat} {M : List (List Bool)} {b : Bool} (h : Shp N n M) {i x : Nat} (hi : i < N) (hx : x < n) (h0 : tg M i x = false) : TStp N n (fun p => p i x) M (tput M i x) b true:=by
 refine ⟨tput_shp h i x,fun j y hy => (tg_put h hi hx j y).2 (.inr hy),by rw [tput_cnt h hi hx h0]; omega,fun _ => .inr (by rw [tput_cnt h hi hx h0]; omega),fun hb => Bool.noConfusion hb,fun p hp hF j y hy => ?_⟩
 rcases (tg_put h hi hx j y).1 hy with ⟨rfl,rfl⟩ | h1
 ·exact hF
 ·exact hp j y h1
end Go.And
end
section
namespace Go.Proofs.YtgblfjccccdidaaGreat
open Go.RowKit Go.Dfl Go.And
theorem sBool2 : SliceOf Tryz.prog 80 81 (.slice none 0 0) 1 24:=⟨Tryz.underlying80,info_parts (P:=Tryz.prog) (e:=81) (by kernel_rfl)⟩
abbrev IBool (w : World) (base : Nat) (v : Value) (l : List Bool) : Prop:=Go.Dfl.Own Value.bool w base 4 v l
theorem kBool : Kind IBool:=Kind.own _ _
theorem OwnN.setIn {w : World} {base : Nat} {eo : TypeId} {v : Value} {vs : List Value} {ll : List (List Bool)} (h : OwnN IBool w base eo v vs ll) {i x : Nat} (hi : i < ll.length) {a : Option Addr} {n c : Nat} (hv : nth vs i = .slice a n c) (hx : x < (nth ll i).length) (y : Bool) :
  OwnN IBool (w.setCell ⟨blk a,ofs a + x,none⟩ (.bool y)) base eo v vs (ll.set i ((nth ll i).set x y)):=by
 have hI:=h.inn i hi
 rw [hv] at hI
 have hob : (nth vs i).ownBlock = some (blk a):=by
  rw [hv]
  obtain ⟨a2,c2,he, -, -,h3⟩:=hI.lst
  simp at he
  obtain ⟨rfl, -, -⟩:=he
  rw [(h3 x hx).1]; rfl
 have hg:=grownBy_setCell w ⟨blk a,ofs a + x,none⟩ (.bool y)
 refine ⟨h.out.grown hg ?_,by simp [h.len],fun j hj => ?_,fun j m hj hm => ?_,fun j hj => ?_⟩
 ·cases e : v.ownBlock with
  | none => exact .inl rfl
  | some k => exact .inr fun e2 => h.apart i hi (blk a) hob (by rw [e,e2])
 ·simp at hj
  rw [nth_set]
  by_cases e : i = j
  ·subst e
   rw [if_pos ⟨rfl,hi⟩,hv]
   exact hI.set x y
  ·rw [if_neg (by omega)]
   refine kBool.grown (h.inn j hj) hg ?_
   cases e3 : (nth vs j).ownBlock with
   | none => exact .inl rfl
   | some k => exact .inr fun e2 => h.sep i j hi hj e (blk a) hob (by rw [e3,e2])
 ·simp at hj hm; exact h.sep j m hj hm
 ·simp at hj; exact h.apart j hj
structure Kpt (tb : Nat) (hv : Value) (vs : List Value) (W W' : World) : Prop where
 os : W'.os = W.os
 tape : W'.tape = W.tape
 output : W'.output = W.output
 size : W.heap.size ≤ W'.heap.size
 block : ∀ k,k < W.heap.size→k ≠ tb→¬ Foot hv vs k→W'.heap[k]? = W.heap[k]?
theorem Kpt.grown {tb : Nat} {hv : Value} {vs : List Value} {W W' : World} {row : Option Nat} (h : W.grownBy W' row) (hr : ∀ k,row = some k→k = tb ∨ Foot hv vs k) : Kpt tb hv vs W W' :=
 ⟨h.os,h.tape,h.output,h.size,fun k hk h1 h2 => h.block k hk fun e => by rcases hr k e.symm with h3 | h3 <;> contradiction⟩
theorem Kpt.trans {tb : Nat} {hv : Value} {vs : List Value} {a b c : World} (h : Kpt tb hv vs a b) (k : Kpt tb hv vs b c) : Kpt tb hv vs a c :=
 ⟨k.os.trans h.os,k.tape.trans h.tape,k.output.trans h.output,Nat.le_trans h.size k.size,fun i hi h1 h2 => (k.block i (Nat.lt_of_lt_of_le hi h.size) h1 h2).trans (h.block i hi h1 h2)⟩
theorem Kpt.refl {tb : Nat} {hv : Value} {vs : List Value} (W : World) : Kpt tb hv vs W W:=Kpt.grown (grownBy_refl W none) (by simp)
theorem Kpt.cell {tb : Nat} {hv : Value} {vs : List Value} {W W' : World} (h : Kpt tb hv vs W W') {p : Addr} {x : Value} (hc : W.cell? p = some x) (h1 : p.block ≠ tb) (h2 : ¬ Foot hv vs p.block) : W'.cell? p = some x:=by
 rw [World.cell?_of_block (h.block p.block (World.block_lt_of_cell? W p hc) h1 h2)]; exact hc
structure TbM (S : Syst) (cv : Value) (tb : Nat) (ha : Option Addr) (hc : Nat) (vs : List Value) (M : List (List Bool)) (b : Bool) (W : World) : Prop where
 s0 : W.cell? ⟨tb,0,none⟩ = some (.int .i64 (S.vars : Int))
 s1 : W.cell? ⟨tb,1,none⟩ = some (.int .i64 (S.sites : Int))
 s2 : W.cell? ⟨tb,2,none⟩ = some (.int .i64 (S.fields : Int))
 s3 : W.cell? ⟨tb,3,none⟩ = some cv
 has : W.cell? ⟨tb,4,none⟩ = some (.slice ha S.N hc)
 more : W.cell? ⟨tb,5,none⟩ = some (.bool b)
 frz : ∀ j,W.frozen? ⟨tb,j,none⟩ = false
 own : OwnN IBool W (tb + 1) 81 (.slice ha S.N hc) vs M
 shp : Shp S.N S.sites M
section
variable {S : Syst} {cv : Value} {tb : Nat} {ha : Option Addr} {hc : Nat} {vs : List Value} {M : List (List Bool)} {b : Bool} {W W' : World}
theorem TbM.foot (h : TbM S cv tb ha hc vs M b W) (k : Nat) (hk : Foot (.slice ha S.N hc) vs k) : tb < k∧k < W.heap.size:=h.own.foot kBool k hk
theorem TbM.grown (h : TbM S cv tb ha hc vs M b W) {row : Option Nat} (hg : W.grownBy W' row) (hr : ∀ k,row = some k→k ≠ tb∧¬ Foot (.slice ha S.N hc) vs k) : TbM S cv tb ha hc vs M b W':=by
 have hn : ∀ {p : Addr},p.block = tb→some p.block ≠ row:=fun e e2 => by
  have:=(hr _ e2.symm).1; rw [e] at this; exact this rfl
 have hlt:=World.block_lt_of_cell? W _ h.s0
 refine ⟨hg.cell h.s0 (hn rfl),hg.cell h.s1 (hn rfl),hg.cell h.s2 (hn rfl),hg.cell h.s3 (hn rfl),hg.cell h.has (hn rfl),hg.cell h.more (hn rfl),fun j => ?_,h.own.grown kBool hg fun k e => (hr k e).2,h.shp⟩
 rw [World.frozen?_of_block (a:=⟨tb,j,none⟩) (hg.block tb hlt fun e => (hr tb e.symm).1 rfl)]
 exact h.frz j
theorem TbM.keep (h : TbM S cv tb ha hc vs M b W) (hg : W.grownBy W' none) : TbM S cv tb ha hc vs M b W':=h.grown hg (by simp)
theorem Kpt.below (h : TbM S cv tb ha hc vs M b W) (hk : Kpt tb (.slice ha S.N hc) vs W W') : Below tb W W' :=
 ⟨hk.os,hk.tape,hk.output,hk.size,fun k hlt => hk.block k (Nat.lt_trans hlt (World.block_lt_of_cell? W _ h.s0)) (by omega) fun hf => by have:=(h.foot k hf).1; omega⟩
theorem TbM.rd (h : TbM S cv tb ha hc vs M b W) {i : Nat} (hi : i < S.N) : ∃ a c,nth vs i = .slice a S.sites c ∧
  (∀ (k : IntKind) (x : Int),0 ≤ x→x < S.N→∀ W,(Instr.indexAt 80 (.slice ha S.N hc) (.int k x)).run Tryz.prog W = .ok (.pointer (some ⟨blk ha,ofs ha + x.toNat,none⟩)) W) ∧
  W.cell? ⟨blk ha,ofs ha + i,none⟩ = some (.slice a S.sites c) ∧
  (∀ (k : IntKind) (x : Int),0 ≤ x→x < S.sites→∀ W,(Instr.indexAt 81 (.slice a S.sites c) (.int k x)).run Tryz.prog W = .ok (.pointer (some ⟨blk a,ofs a + x.toNat,none⟩)) W) ∧
  (∀ x,x < S.sites→W.cell? ⟨blk a,ofs a + x,none⟩ = some (.bool (tg M i x))∧W.frozen? ⟨blk a,ofs a + x,none⟩ = false∧Foot (.slice ha S.N hc) vs (blk a)):=by
 have hvl : vs.length = S.N:=by rw [h.own.len,h.shp.len]
 have hil : i < M.length:=by rw [h.shp.len]; exact hi
 obtain ⟨a1,c1,e1, -,i1,d1, -⟩:=h.own.out.lst.out1 sBool2
 simp only [Value.slice.injEq] at e1
 obtain ⟨rfl, -,rfl⟩:=e1
 rw [hvl] at i1
 have hin:=h.own.inn i hil
 obtain ⟨a,c,e2, -,i2,d2, -⟩:=hin.lst.out1 sBool
 rw [h.shp.row i hi] at e2 i2
 refine ⟨a,c,e2,i1,by rw [← e2]; exact d1 i (by rw [hvl]; exact hi),i2,fun x hx => ⟨d2 x (by rw [h.shp.row i hi]; exact hx), ?_,.inr ⟨i,by rw [hvl]; exact hi, ?_⟩⟩⟩
 ·rw [e2] at hin
  exact Go.Dfl.Own.frozen hin (by rw [h.shp.row i hi]; omega) _
 ·rw [e2]
  have hl:=hin.lst
  rw [e2] at hl
  obtain ⟨a3,c3,e3, -, -,h3⟩:=hl
  simp only [Value.slice.injEq] at e3
  obtain ⟨rfl, -, -⟩:=e3
  rw [(h3 x (by rw [h.shp.row i hi]; exact hx)).1]; rfl
theorem TbM.mark (h : TbM S cv tb ha hc vs M b W) (y : Bool) : TbM S cv tb ha hc vs M y (W.setCell ⟨tb,5,none⟩ (.bool y)):=by
 have hlt:=World.block_lt_of_cell? W _ h.s0
 have ho : ∀ j,j ≠ 5→(W.setCell ⟨tb,5,none⟩ (.bool y)).cell? ⟨tb,j,none⟩ = W.cell? ⟨tb,j,none⟩:=fun j hj => World.cell?_setCell_other _ _ _ _ (by intro e; simp at e; try omega)
 refine ⟨by rw [ho _ (by omega)]; exact h.s0,by rw [ho _ (by omega)]; exact h.s1,by rw [ho _ (by omega)]; exact h.s2,by rw [ho _ (by omega)]; exact h.s3,by rw [ho _ (by omega)]; exact h.has, ?_,fun j => ?_,h.own.grown kBool (grownBy_setCell _ _ _) fun k e hf => ?_,h.shp⟩
 ·exact World.cell?_setCell_same W _ _ h.more
 ·rw [World.frozen?_setCell]; exact h.frz j
 ·simp at e; have:=(h.foot k hf).1; omega
theorem TbM.put (h : TbM S cv tb ha hc vs M b W) {i x : Nat} (hi : i < S.N) (hx : x < S.sites) {a : Option Addr} {c : Nat} (hv : nth vs i = .slice a S.sites c) : TbM S cv tb ha hc vs (tput M i x) b (W.setCell ⟨blk a,ofs a + x,none⟩ (.bool true)):=by
 have hf : Foot (.slice ha S.N hc) vs (blk a):=by
  obtain ⟨a2,c2,e2, -, -, -,h2⟩:=h.rd hi
  rw [hv] at e2; simp only [Value.slice.injEq] at e2; obtain ⟨rfl, -,rfl⟩:=e2
  exact (h2 x hx).2.2
 have hn:=(h.foot _ hf).1
 have hg:=grownBy_setCell W ⟨blk a,ofs a + x,none⟩ (.bool true)
 have hne : ∀ {p : Addr},p.block = tb→some p.block ≠ some (blk a):=fun e e2 => by simp at e2; omega
 have hlt:=World.block_lt_of_cell? W _ h.s0
 refine ⟨hg.cell h.s0 (hne rfl),hg.cell h.s1 (hne rfl),hg.cell h.s2 (hne rfl),hg.cell h.s3 (hne rfl),hg.cell h.has (hne rfl),hg.cell h.more (hne rfl),fun j => ?_, ?_,tput_shp h.shp i x⟩
 ·rw [World.frozen?_setCell]; exact h.frz j
 ·exact OwnN.setIn h.own (by rw [h.shp.len]; exact hi) hv (by rw [h.shp.row i hi]; exact hx) true
end
def TDoes (S : Syst) (cv : Value) (tb : Nat) (ha : Option Addr) (hc : Nat) (vs : List Value) (F : (Nat→Nat→Prop)→Prop) (M : List (List Bool)) (b : Bool) (W : World) (e : Ending) (W' : World) : Prop :=
 (∃ v,e = .returned v)∧∃ M' b',TbM S cv tb ha hc vs M' b' W'∧TStp S.N S.sites F M M' b b'∧Kpt tb (.slice ha S.N hc) vs W W'
set_option maxHeartbeats 1600000 in
theorem tput_any {S : Syst} {cv : Value} {tb : Nat} {ha : Option Addr} {hc : Nat} {vs : List Value} {M : List (List Bool)} {b : Bool} {W : World} (h : TbM S cv tb ha hc vs M b W) (i x : Nat) (hi : i < S.N) (hx : x < S.sites) :
  Calls Tryz.prog 87 #[.pointer (some ⟨tb,0,none⟩),.int .i64 (i : Int),.int .i64 (x : Int)] W (TDoes S cv tb ha hc vs (fun p => p i x) M b W):=by
 obtain ⟨a,c,e2,i1,d1,i2,h2⟩:=h.rd hi
 obtain ⟨d2,f2,ft⟩:=h2 x hx
 have d0:=h.has
 have f0:=h.frz 5
 have hm:=h.more
 have hfb:=(h.foot _ ft).1
 have H:=Lib.hid (And.intro h (And.intro e2 ft))
 clear h e2 ft h2
 generalize htg : tg M i x = t at *
 have HT:=Lib.hid htg
 clear htg
 cases t
 ·go_enter Tryz.func87,Tryz.ntmps87
  go_wp2_with fail
  go_end0
  refine ⟨⟨_,rfl⟩,_,_,(H.out.1.put hi hx H.out.2.1).mark true,TStp.put H.out.1.shp hi hx HT.out, ?_⟩
  exact (Kpt.grown (grownBy_setCell _ _ _) (fun k e => by simp at e; subst e; exact .inr H.out.2.2)).trans (Kpt.grown (grownBy_setCell _ _ _) (fun k e => by simp at e; exact .inl e.symm))
 ·go_enter Tryz.func87,Tryz.ntmps87
  go_wp2_with fail
  go_end0
  exact ⟨⟨_,rfl⟩,_,_,H.out.1,TStp.refl H.out.1.shp fun _ => HT.out,Kpt.refl _⟩
set_option maxHeartbeats 1600000 in
theorem tcell_any {S : Syst} {cv : Value} {tb : Nat} {ha : Option Addr} {hc : Nat} {vs : List Value} {M : List (List Bool)} {b : Bool} {W : World} (h : TbM S cv tb ha hc vs M b W) (y f : Nat) (h1 : S.vars ≤ 1000000) (h3 : S.fields ≤ 1000000) (hy : y ≤ 1000000) (hf : f ≤ 1000000) :
  ∃ n : Nat,n = S.cell y f∧Calls Tryz.prog 89 #[.pointer (some ⟨tb,0,none⟩),.int .i64 (y : Int),.int .i64 (f : Int)] W (fun e W' => e = .returned (.int .i64 (n : Int))∧Qt W W'):=by
 refine ⟨_,rfl, ?_⟩
 have hm : (y : Int) * (S.fields : Int) ≤ 1000000000000:=by
  have:=Nat.mul_le_mul hy h3
  have e : (y : Int) * (S.fields : Int) = ((y * S.fields : Nat) : Int):=by simp
  rw [e]; omega
 have hm0 : 0 ≤ (y : Int) * (S.fields : Int):=by
  have e : (y : Int) * (S.fields : Int) = ((y * S.fields : Nat) : Int):=by simp
  rw [e]; omega
 have s0:=h.s0
 have s2:=h.s2
 have hw : IntKind.i64.wrap ((y : Int) * (S.fields : Int)) = (y : Int) * (S.fields : Int):=IntWalk.i64_in _ (by omega)
 have hw2 : IntKind.i64.wrap ((S.vars : Int) + (y : Int) * (S.fields : Int)) = (S.vars : Int) + (y : Int) * (S.fields : Int):=IntWalk.i64_in _ (by omega)
 have hw3 : IntKind.i64.wrap ((S.vars : Int) + (y : Int) * (S.fields : Int) + (f : Int)) = (S.vars : Int) + (y : Int) * (S.fields : Int) + (f : Int):=IntWalk.i64_in _ (by omega)
 clear h
 go_enter Tryz.func89,Tryz.ntmps89
 go_wp2_with fail
 go_quiet (fail)
 go_wp2_with fail
 go_ret
 exact ⟨ret_int (by unfold Syst.cell; simp),(by first | exact Qt.refl _ | exact Qt.drewN _ _ | exact (Qt.drewN _ _).trans (Qt.drewN _ _) | exact ((Qt.drewN _ _).trans (Qt.drewN _ _)).trans (Qt.drewN _ _) | exact Qt.drew _ | exact (Qt.drewN _ _).trans (Qt.drew _))⟩
set_option maxHeartbeats 1600000 in
theorem tflow_any {S : Syst} {cv : Value} {tb : Nat} {ha : Option Addr} {hc : Nat} {vs : List Value} {M : List (List Bool)} {b : Bool} {W : World} (h : TbM S cv tb ha hc vs M b W) (i j : Nat) (hi : i < S.N) (hj : j < S.N) (hs : S.sites ≤ 1000000) :
  Calls Tryz.prog 88 #[.pointer (some ⟨tb,0,none⟩),.int .i64 (i : Int),.int .i64 (j : Int)] W (TDoes S cv tb ha hc vs (fun p => ∀ x,p i x→p j x) M b W):=by
 have H:=Lib.hid h
 clear h
 go_enter Tryz.func88,Tryz.ntmps88
 go_wp2_with fail
 go_loopw [6] (fun x wr => ∃ k : Nat,k ≤ S.sites∧x = .int .i64 k∧Hid (∃ M' b',TbM S cv tb ha hc vs M' b' wr∧TStp S.N S.sites (fun p => ∀ x,x < k→p i x→p j x) M M' b b'∧Kpt tb (.slice ha S.N hc) vs W wr)) (fun x _ => S.sites - (intOf x).toNat)
 case atStart => exact ⟨0,by omega,rfl,M,b,H.out,TStp.refl H.out.shp fun _ x hx => by omega,Kpt.refl _⟩
 case round =>
  obtain ⟨k,hk,rfl,hh⟩:=hrel
  obtain ⟨M',b',hT,hS,hK⟩:=hh.out
  clear hh
  have s1:=hT.s1
  by_cases hlt : k < S.sites
  ·obtain ⟨a,c,e2,i1,d1,i2,h2⟩:=hT.rd hi
   obtain ⟨d2,f2,ft⟩:=h2 k hlt
   have d0:=hT.has
   have HH:=Lib.hid (And.intro hT (And.intro hS hK))
   clear hT hS hK e2 h2 ft f2
   generalize htg : tg M' i k = t at *
   have HT:=Lib.hid htg
   clear htg
   cases t
   ·go_wp2_with fail
    go_roundw
    case rel => exact ⟨k + 1,by omega,by go_num,M',b',HH.out.1,HH.out.2.1.mono (fun p hp x hx => hp x (by omega)) (fun hp x hx hpx => by
     by_cases e : x = k
     ·subst e
      have h1 : tg M i x = true:=hpx
      have h2:=HH.out.2.1.le i x h1
      have h3 : tg M' i x = true:=h2
      rw [HT.out] at h3; cases h3
     ·exact hp x (by omega) hpx),HH.out.2.2⟩
    case measure => simp [intOf]; omega
   ·go_wp2_with fail
    refine (tput_any HH.out.1 j k hj hlt).mono ?_
    rintro e W2 ⟨⟨v2,rfl⟩,M2,b2,hT2,hS2,hK2⟩
    have H2:=Lib.hid (And.intro hT2 (And.intro hS2 hK2))
    clear hT2 hS2 hK2
    go_wp2_with fail
    go_roundw
    case rel => exact ⟨k + 1,by omega,by go_num,M2,b2,H2.out.1,HH.out.2.1.thenW H2.out.2.1 _ (fun p hp x hx => hp x (by omega)) (fun p hs hp => hp k (by omega) (hs i k HT.out)) (fun hF hG x hx hpx => by
     by_cases e : x = k
     ·subst e; exact hG
     ·exact hF x (by omega) hpx),HH.out.2.2.trans H2.out.2.2⟩
    case measure => simp [intOf]; omega
  ·obtain rfl : k = S.sites:=by omega
   have HH:=Lib.hid (And.intro hT (And.intro hS hK))
   clear hT hS hK
   go_wp2_with fail
   go_end0
   refine ⟨⟨_,rfl⟩,M',b',HH.out.1,HH.out.2.1.mono (fun p hp x _ => hp x) (fun hp x hx => hp x (tg_lt H.out.shp hx).2 hx),HH.out.2.2⟩
end Go.Proofs.YtgblfjccccdidaaGreat
end
