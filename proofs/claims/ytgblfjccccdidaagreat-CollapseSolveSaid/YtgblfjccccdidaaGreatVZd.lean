/- Texts of the claim, merged. -/
import Derived.Deep.Cut
import Derived.BigQuiet
import Derived.Test.YtgblfjccccdidaaGreatVZc
section
namespace Go.Gra
open Go.Dfl (nth nth_mem mem_nth nth_eq nth_ext nth_set)
def eG (g : G) (a b : Nat) : Prop:=a < g.n.toNat∧b ∈ suc g.es a
end Go.Gra
namespace Go.Proofs.YtgblfjccccdidaaGreat
open Go.RowKit Go.Dfl Go.Gra Go.Tj
def HdsAre (g : G) (l : List Int) : Prop:=l.length = g.n.toNat∧∀ v,v < g.n.toNat→∃ m : Nat,nth l v = (m : Int)∧IsHd (eG g) v m
def SearchR (g : G) (W : World) (e : Ending) (W' : World) : Prop:=∃ a c l,e = .returned (.slice a g.n.toNat c)∧OwnI W' W.heap.size 3 (.slice a g.n.toNat c) l∧HdsAre g l∧Below W.heap.size W W'
structure New3 (w : World) (x y z : Value) (Z : World) : Prop where
 bel : Below w.heap.size w Z
 x : Z.cell? ⟨w.heap.size,0,none⟩ = some x
 y : Z.cell? ⟨w.heap.size + 1,0,none⟩ = some y
 z : Z.cell? ⟨w.heap.size + 1 + 1,0,none⟩ = some z
 fx : Z.frozen? ⟨w.heap.size,0,none⟩ = false
 fy : Z.frozen? ⟨w.heap.size + 1,0,none⟩ = false
 siz : Z.heap.size = w.heap.size + 1 + 1 + 1
theorem three_new (w : World) (x y z : Value) (t1 t2 t3 : TypeId) : New3 w x y z (((w.alloc (.cells #[x] t1)).alloc (.cells #[y] t2)).alloc (.cells #[z] t3)):=by
 have z1 : (w.alloc (.cells #[x] t1)).heap.size = w.heap.size + 1:=World.size_alloc _ _
 have z2 : ((w.alloc (.cells #[x] t1)).alloc (.cells #[y] t2)).heap.size = w.heap.size + 1 + 1:=by rw [World.size_alloc,z1]
 have g2:=grownBy_alloc (w.alloc (.cells #[x] t1)) (.cells #[y] t2)
 have g3:=grownBy_alloc ((w.alloc (.cells #[x] t1)).alloc (.cells #[y] t2)) (.cells #[z] t3)
 have cy:=cell_alloc1 (w.alloc (.cells #[x] t1)) y t2
 have cz:=cell_alloc1 ((w.alloc (.cells #[x] t1)).alloc (.cells #[y] t2)) z t3
 have fy:=frozen_alloc1 (w.alloc (.cells #[x] t1)) y t2
 rw [z1] at cy fy
 rw [z2] at cz
 exact ⟨(((Below.refl w.heap.size w).alloc (Nat.le_refl _) _).alloc (by omega) _).alloc (by omega) _,g3.cell (g2.cell (cell_alloc1 w x t1) (by simp)) (by simp),g3.cell cy (by simp),cz,Go.Proofs.YtgblfjccccdidaaGreat.frozen_kept g3 (by omega) (by simp) (Go.Proofs.YtgblfjccccdidaaGreat.frozen_kept g2 (by omega) (by simp) (frozen_alloc1 w x t1)),Go.Proofs.YtgblfjccccdidaaGreat.frozen_kept g3 (by omega) (by simp) fy,by rw [World.size_alloc,z2]⟩
def roleS (sn sl sh : Option Addr) (n cn cl ch bc bs q : Nat) : Nat :=
 if (Value.slice sn n cn).ownBlock = some q then 2 else if (Value.slice sl n cl).ownBlock = some q then 3 else if (Value.slice sh n ch).ownBlock = some q then 4 else if q = bc then 1 else if q = bs then 5 else 0
set_option maxHeartbeats 6400000 in
set_option maxRecDepth 100000 in
theorem gSearch_any (g : G) (cv : Value) (W : World) (h : Pairs W cv g.es) (hvg : VG g) : Calls Tryz.prog 101 #[GV g cv] W (SearchR g W):=by
 obtain ⟨ca,cc,rfl, -, -, -⟩:=pairs_rd h
 have hal:=(Below.refl W.heap.size W).alloc (Nat.le_refl _) (.cells #[.int .i64 g.n,.slice ca g.es.length cc] 71)
 have H0:=Lib.hid (And.intro (h.below hal) (And.intro hal (BoxG.new W g.n (.slice ca g.es.length cc) 71)))
 obtain ⟨n,hn⟩ : ∃ n : Nat,g.n = n:=⟨g.n.toNat,by have:=hvg.n0; omega⟩
 have hn8 : n ≤ 8192:=by have:=hvg.n1; omega
 have HV:=Lib.hid (And.intro hvg hn)
 unfold GV
 rw [hn] at H0 ⊢
 clear h hal hvg hn
 obtain ⟨c0,c1⟩:=H0.out.2.2
 have n1 : W.heap.size < (W.alloc (.cells #[.int .i64 (n : Int),.slice ca g.es.length cc] 71)).heap.size:=H0.out.2.2.lt
 go_enter Tryz.func101,Tryz.ntmps101
 go_wp2_with fail
 have hsu:=successors_any g (.slice ca g.es.length cc) _ H0.out.1 HV.out.1
 unfold GV at hsu
 rw [HV.out.2] at hsu
 refine hsu.mono ?_
 rintro e W1 ⟨ra,rc,us,rfl,hown,b1⟩
 rw [HV.out.2,Int.toNat_natCast] at hown ⊢
 have H1:=Lib.hid (And.intro (H0.out.2.2.below b1) (And.intro (H0.out.2.1.trans (b1.mono H0.out.2.1.size)) (OwnN.mono hown (Nat.le_of_lt n1))))
 clear hsu hown b1 c0 c1 n1
 obtain ⟨c0,c1⟩:=H1.out.1
 go_upto_region 2 with fail
 have hbA:=(Below.refl W1.heap.size W1).alloc (Nat.le_refl _) (.cells #[.slice ra n rc] 27)
 have hz2 : (W1.alloc (.cells #[.slice ra n rc] 27)).heap.size = W1.heap.size + 1:=World.size_alloc _ _
 have hcu:=cell_alloc1 W1 (.slice ra n rc) 27
 have hbo:=H1.out.1.below hbA
 have hro:=H1.out.2.2.below kIIg hbA
 have hbw:=H1.out.2.1.trans (hbA.mono H1.out.2.1.size)
 have hft : ∀ q,Foot (.slice ra n rc) us q→W.heap.size ≤ q∧q < W1.heap.size:=fun q hq => H1.out.2.2.foot kIIg q hq
 refine gen_code (fun Z => BoxG Z W.heap.size (n : Int) (.slice ca g.es.length cc)∧OwnN IIg Z W.heap.size 32 (.slice ra n rc) us (listsTo g.es n g.es.length)∧Below W.heap.size W Z∧Z.cell? ⟨W1.heap.size,0,none⟩ = some (.slice ra n rc)∧Z.heap.size = W1.heap.size + 1) ⟨hbo,hro,hbw,hcu,hz2⟩ ?_
 intro W2 h2
 obtain ⟨bu,hbu⟩ : ∃ bu,bu = W1.heap.size:=⟨_,rfl⟩
 rw [← hbu] at h2 hft ⊢
 have H2:=Lib.hid (And.intro h2 hft)
 have hbuW : W.heap.size ≤ bu:=by have:=H1.out.2.1.size; omega
 clear hbA hz2 hcu hbo hro hbw hft h2 hbu c0 c1 H1
 obtain ⟨c0,c1⟩:=H2.out.1.1
 go_upto_region 3 with (at_make; refine wp_make (f:=Value.int .i64) 0 sIntG rfl _ rfl _ _ rfl .i64 .i64 _ _ n rfl rfl rfl rfl (by omega) (by unfold maxLen; omega) ?_; intro sn cn W3 hrow hb; have HN:=Lib.hid (And.intro hrow hb); clear hrow hb c0 c1)
 have hbA:=(Below.refl W3.heap.size W3).alloc (Nat.le_refl _) (.cells #[.slice sn n cn] 32)
 have hbB:=HN.out.2.trans (hbA.mono HN.out.2.size)
 have hz4 : (W3.alloc (.cells #[.slice sn n cn] 32)).heap.size = W3.heap.size + 1:=World.size_alloc _ _
 have hcn:=cell_alloc1 W3 (.slice sn n cn) 32
 refine gen_code (fun Z => Below W2.heap.size W2 Z∧OwnI Z W2.heap.size 3 (.slice sn n cn) (List.replicate n 0)∧Z.cell? ⟨W3.heap.size,0,none⟩ = some (.slice sn n cn)∧Z.heap.size = W3.heap.size + 1) ⟨hbB,HN.out.1.below hbA,hcn,hz4⟩ ?_
 intro W4 h4
 have hW23:=HN.out.2.size
 have hnq:=HN.out.1.lt
 obtain ⟨bn,hbn⟩ : ∃ bn,bn = W3.heap.size:=⟨_,rfl⟩
 rw [← hbn] at h4 hW23 hnq ⊢
 have H4:=Lib.hid (And.intro h4 (And.intro hW23 hnq))
 clear hbA hbB hz4 hcn h4 hW23 hnq hbn HN
 obtain ⟨c0,c1⟩:=H2.out.1.1.below H4.out.1.1
 go_upto_region 4 with (at_make; refine wp_make (f:=Value.int .i64) 0 sIntG rfl _ rfl _ _ rfl .i64 .i64 _ _ n rfl rfl rfl rfl (by omega) (by unfold maxLen; omega) ?_; intro sl cl W5 hrow hb; have HL:=Lib.hid (And.intro hrow hb); clear hrow hb c0 c1)
 have hbA:=(Below.refl W5.heap.size W5).alloc (Nat.le_refl _) (.cells #[.slice sl n cl] 32)
 have hbB:=HL.out.2.trans (hbA.mono HL.out.2.size)
 have hz6 : (W5.alloc (.cells #[.slice sl n cl] 32)).heap.size = W5.heap.size + 1:=World.size_alloc _ _
 have hcn:=cell_alloc1 W5 (.slice sl n cl) 32
 refine gen_code (fun Z => Below W4.heap.size W4 Z∧OwnI Z W4.heap.size 3 (.slice sl n cl) (List.replicate n 0)∧Z.cell? ⟨W5.heap.size,0,none⟩ = some (.slice sl n cl)∧Z.heap.size = W5.heap.size + 1) ⟨hbB,HL.out.1.below hbA,hcn,hz6⟩ ?_
 intro W6 h6
 have hW45:=HL.out.2.size
 have hlq:=HL.out.1.lt
 obtain ⟨bl,hbl⟩ : ∃ bl,bl = W5.heap.size:=⟨_,rfl⟩
 rw [← hbl] at h6 hW45 hlq ⊢
 have H6:=Lib.hid (And.intro h6 (And.intro hW45 hlq))
 clear hbA hbB hz6 hcn h6 hW45 hlq hbl HL
 have hb26:=H4.out.1.1.trans (H6.out.1.1.mono H4.out.1.1.size)
 obtain ⟨c0,c1⟩:=H2.out.1.1.below hb26
 have HB26:=Lib.hid hb26
 clear hb26
 go_upto_region 5 with (at_make; refine wp_make (f:=Value.int .i64) 0 sIntG rfl _ rfl _ _ rfl .i64 .i64 _ _ n rfl rfl rfl rfl (by omega) (by unfold maxLen; omega) ?_; intro sh ch W7 hrow hb; have HH:=Lib.hid (And.intro hrow hb); clear hrow hb c0 c1)
 have hbA:=(Below.refl W7.heap.size W7).alloc (Nat.le_refl _) (.cells #[.slice sh n ch] 32)
 have hbB:=HH.out.2.trans (hbA.mono HH.out.2.size)
 have hz8 : (W7.alloc (.cells #[.slice sh n ch] 32)).heap.size = W7.heap.size + 1:=World.size_alloc _ _
 have hcn:=cell_alloc1 W7 (.slice sh n ch) 32
 refine gen_code (fun Z => Below W6.heap.size W6 Z∧OwnI Z W6.heap.size 3 (.slice sh n ch) (List.replicate n 0)∧Z.cell? ⟨W7.heap.size,0,none⟩ = some (.slice sh n ch)∧Z.heap.size = W7.heap.size + 1) ⟨hbB,HH.out.1.below hbA,hcn,hz8⟩ ?_
 intro W8 h8
 have hW67:=HH.out.2.size
 have hhq:=HH.out.1.lt
 obtain ⟨bh,hbh⟩ : ∃ bh,bh = W7.heap.size:=⟨_,rfl⟩
 rw [← hbh] at h8 hW67 hhq ⊢
 have H8:=Lib.hid (And.intro h8 (And.intro hW67 hhq))
 clear hbA hbB hz8 hcn h8 hW67 hhq hbh HH
 have u1:=H8.out.1.2.2.1
 go_wp2_with fail
 clear u1
 go_loopw [25] (fun x wr => ∃ (j : Nat) (l : List Int),j ≤ n∧x = .int .i64 (j : Int)∧Hid (OwnI wr W6.heap.size 3 (.slice sh n ch) l∧l.length = n∧(∀ x,x < j→nth l x = -1)∧wr.cell? ⟨bh,0,none⟩ = some (.slice sh n ch)∧Below W6.heap.size W6 wr∧wr.heap.size = bh + 1)) (fun x _ => n - (intOf x).toNat)
 case atStart => exact ⟨0,_,by omega,rfl,H8.out.1.2.1,by simp,fun x hx => by omega,H8.out.1.2.2.1,H8.out.1.1,H8.out.1.2.2.2⟩
 case round =>
  obtain ⟨j,l,hj,rfl,hh⟩:=hrel
  have HK:=Lib.hid hh.out
  clear hh
  have u1:=HK.out.2.2.2.1
  by_cases hjt : j < n
  ·have hjl : (j : Int) < (n : Int):=by omega
   obtain ⟨a1,a2,a3⟩:=own_int HK.out.1 HK.out.2.1 hjt
   have hob:=own_blkG HK.out.1 HK.out.2.1 (by omega)
   have hq:=H8.out.2.2 _ hob
   have hst:=HK.out.1.set j (-1 : Int)
   have hbn : bh ≠ blk sh:=by omega
   have hce : (wr.setCell ⟨blk sh,ofs sh + j,none⟩ (.int .i64 (-1))).cell? ⟨bh,0,none⟩ = some (.slice sh n ch):=by
    rw [World.cell?_setCell_other _ _ _ _ (by intro e9; have h9:=congrArg Addr.block e9; first | exact hbn h9 | exact hbn h9.symm)]; exact u1
   have hbe:=HK.out.2.2.2.2.1.setCell (p:=⟨blk sh,ofs sh + j,none⟩) hq.1 (.int .i64 (-1))
   have hnew : ∀ x,x < j + 1→nth (l.set j (-1)) x = -1:=fun x hx => by
    rw [nth_set,HK.out.2.1]
    by_cases e : j = x
    ·rw [if_pos ⟨e,hjt⟩]
    ·rw [if_neg fun h => e h.1]; exact HK.out.2.2.1 x (by omega)
   have HST:=Lib.hid (And.intro hst (And.intro (show (l.set j (-1)).length = n by rw [List.length_set]; exact HK.out.2.1) (And.intro hnew (And.intro hce (And.intro hbe (show (wr.setCell ⟨blk sh,ofs sh + j,none⟩ (.int .i64 (-1))).heap.size = bh + 1 by rw [World.size_setCell]; exact HK.out.2.2.2.2.2))))))
   clear hob hq hst hbn hce hbe hnew
   go_wp2_with fail
   go_roundw
   case rel => exact ⟨j + 1,l.set j (-1),by omega,by go_num,HST.out⟩
   case measure => simp [intOf]; omega
  ·obtain rfl : n = j:=by omega
   have hb6:=HB26.out.trans (HK.out.2.2.2.2.1.mono HB26.out.size)
   obtain ⟨c0,c1⟩:=H2.out.1.1.below hb6
   have hszn : W.heap.size < wr.heap.size:=World.block_lt_of_cell? _ _ c0
   have hb0:=H2.out.1.2.2.1.trans (hb6.mono H2.out.1.2.2.1.size)
   have HB6:=Lib.hid (And.intro hb6 hb0)
   clear hb6 hb0 hjt hj
   go_upto_region 14 with fail
   have h9:=three_new wr (.slice none 0 0) (.int .i64 0) (.func (.func 129) #[] #[.pointer (some ⟨wr.heap.size + 1,0,none⟩),.pointer (some ⟨bn,0,none⟩),.pointer (some ⟨bl,0,none⟩),.pointer (some ⟨wr.heap.size,0,none⟩),.pointer (some ⟨bu,0,none⟩),.pointer (some ⟨wr.heap.size + 1 + 1,0,none⟩),.pointer (some ⟨bh,0,none⟩)]) 32 3 109
   refine gen_code (fun Z => New3 wr (.slice none 0 0) (.int .i64 0) (.func (.func 129) #[] #[.pointer (some ⟨wr.heap.size + 1,0,none⟩),.pointer (some ⟨bn,0,none⟩),.pointer (some ⟨bl,0,none⟩),.pointer (some ⟨wr.heap.size,0,none⟩),.pointer (some ⟨bu,0,none⟩),.pointer (some ⟨wr.heap.size + 1 + 1,0,none⟩),.pointer (some ⟨bh,0,none⟩)]) Z) h9 ?_
   clear h9
   intro WI hI
   obtain ⟨zs,hzs⟩ : ∃ zs,zs = wr.heap.size:=⟨_,rfl⟩
   have hzb : zs = bh + 1:=by rw [hzs]; exact HK.out.2.2.2.2.2
   have e1 : W2.heap.size = bu + 1:=H2.out.1.2.2.2.2
   have e2 : W4.heap.size = bn + 1:=H4.out.1.2.2.2
   have e3 : W6.heap.size = bl + 1:=H6.out.1.2.2.2
   have o1 : W2.heap.size ≤ bn:=H4.out.2.1
   have o2 : W4.heap.size ≤ bl:=H6.out.2.1
   have o3 : W6.heap.size ≤ bh:=H8.out.2.1
   have qn : ∀ q,(Value.slice sn n cn).ownBlock = some q→bu < q∧q < bn:=fun q e => by have:=H4.out.2.2 q e; omega
   have ql : ∀ q,(Value.slice sl n cl).ownBlock = some q→bn < q∧q < bl:=fun q e => by have:=H6.out.2.2 q e; omega
   have qh : ∀ q,(Value.slice sh n ch).ownBlock = some q→bl < q∧q < bh:=fun q e => by have:=H8.out.2.2 q e; omega
   have r0 : ∀ q,(q ≤ bu ∨ q = bn ∨ q = bl ∨ q = bh ∨ q = zs + 1 + 1)→roleS sn sl sh n cn cl ch (zs + 1) zs q = 0:=fun q hq => by
    unfold roleS
    rw [if_neg fun e => by have:=qn q e; omega,if_neg fun e => by have:=ql q e; omega,if_neg fun e => by have:=qh q e; omega,if_neg (by omega),if_neg (by omega)]
   have r1 : roleS sn sl sh n cn cl ch (zs + 1) zs (zs + 1) = 1:=by
    unfold roleS
    rw [if_neg fun e => by have:=qn _ e; omega,if_neg fun e => by have:=ql _ e; omega,if_neg fun e => by have:=qh _ e; omega,if_pos rfl]
   have r5 : roleS sn sl sh n cn cl ch (zs + 1) zs zs = 5:=by
    unfold roleS
    rw [if_neg fun e => by have:=qn _ e; omega,if_neg fun e => by have:=ql _ e; omega,if_neg fun e => by have:=qh _ e; omega,if_neg (by omega),if_pos rfl]
   have r2 : ∀ q,(Value.slice sn n cn).ownBlock = some q→roleS sn sl sh n cn cl ch (zs + 1) zs q = 2:=fun q e => by unfold roleS; rw [if_pos e]
   have r3 : ∀ q,(Value.slice sl n cl).ownBlock = some q→roleS sn sl sh n cn cl ch (zs + 1) zs q = 3:=fun q e => by
    unfold roleS; rw [if_neg fun e2 => by have:=qn _ e2; have:=ql _ e; omega,if_pos e]
   have r4 : ∀ q,(Value.slice sh n ch).ownBlock = some q→roleS sn sl sh n cn cl ch (zs + 1) zs q = 4:=fun q e => by
    unfold roleS; rw [if_neg fun e2 => by have:=qn _ e2; have:=qh _ e; omega,if_neg fun e2 => by have:=ql _ e2; have:=qh _ e; omega,if_pos e]
   have b6I : Below W6.heap.size W6 WI:=HK.out.2.2.2.2.1.trans (hI.bel.mono HK.out.2.2.2.2.1.size)
   have b4I : Below W4.heap.size W4 WI:=H6.out.1.1.trans (b6I.mono H6.out.1.1.size)
   have b2I : Below W2.heap.size W2 WI:=H4.out.1.1.trans (b4I.mono H4.out.1.1.size)
   have b0I : Below W.heap.size W WI:=H2.out.1.2.2.1.trans (b2I.mono H2.out.1.2.2.1.size)
   have hsI:=hI.siz
   rw [← hzs] at hI hsI ⊢
   have hIx:=hI.x
   have hIy:=hI.y
   have hIz:=hI.z
   have hIf:=hI.fx
   have hIg:=hI.fy
   rw [← hzs] at hIx hIy hIz hIf hIg
   obtain ⟨L,hL⟩ : ∃ L : SeL,L = { bc:=zs + 1,bn:=bn,bl:=bl,bs:=zs,bu:=bu,bf:=zs + 1 + 1,bh:=bh,sn:=sn,sl:=sl,sh:=sh,cn:=cn,cl:=cl,ch:=ch,su:=ra,cu:=rc,us:=us,B0:=W.heap.size,B:=zs + 1 + 1 + 1,rl:=roleS sn sl sh n cn cl ch (zs + 1) zs,W0:=WI,n:=n,ll:=listsTo g.es n g.es.length,fv:=.func (.func 129) #[] #[.pointer (some ⟨zs + 1,0,none⟩),.pointer (some ⟨bn,0,none⟩),.pointer (some ⟨bl,0,none⟩),.pointer (some ⟨zs,0,none⟩),.pointer (some ⟨bu,0,none⟩),.pointer (some ⟨zs + 1 + 1,0,none⟩),.pointer (some ⟨bh,0,none⟩)] }:=⟨_,rfl⟩
   have hS : SeS L:=by
    subst hL
    exact {
     kc:=⟨r1,by show zs + 1 < zs + 1 + 1 + 1; omega,by show W.heap.size ≤ zs + 1; omega⟩
     kn:=fun q e => ⟨r2 q e,by have:=qn q e; show q < zs + 1 + 1 + 1; omega⟩
     kl:=fun q e => ⟨r3 q e,by have:=ql q e; show q < zs + 1 + 1 + 1; omega⟩
     kh:=fun q e => ⟨r4 q e,by have:=qh q e; show q < zs + 1 + 1 + 1; omega⟩
     ks:=⟨r5,by show zs < zs + 1 + 1 + 1; omega,by show W.heap.size ≤ zs; omega⟩
     xn:=⟨b4I.cell (p:=⟨bn,0,none⟩) (by show bn < W4.heap.size; omega) ▸ H4.out.1.2.2.1,r0 _ (.inr (.inl rfl)),by show bn < zs + 1 + 1 + 1; omega⟩
     xl:=⟨b6I.cell (p:=⟨bl,0,none⟩) (by show bl < W6.heap.size; omega) ▸ H6.out.1.2.2.1,r0 _ (.inr (.inr (.inl rfl))),by show bl < zs + 1 + 1 + 1; omega⟩
     xh:=⟨hI.bel.cell (p:=⟨bh,0,none⟩) (by show bh < wr.heap.size; omega) ▸ HK.out.2.2.2.1,r0 _ (.inr (.inr (.inr (.inl rfl)))),by show bh < zs + 1 + 1 + 1; omega⟩
     xu:=⟨b2I.cell (p:=⟨bu,0,none⟩) (by show bu < W2.heap.size; omega) ▸ H2.out.1.2.2.2.1,r0 _ (.inl (Nat.le_refl _)),by show bu < zs + 1 + 1 + 1; omega⟩
     xf:=⟨hIz,r0 _ (.inr (.inr (.inr (.inr rfl)))),by show zs + 1 + 1 < zs + 1 + 1 + 1; omega⟩
     gr:=H2.out.1.2.1.below kIIg b2I
     gl:=listsTo_len _ _ _
     gf:=fun q hq => by have h9:=H2.out.2 q hq; exact ⟨r0 q (.inl (by omega)),by show q < zs + 1 + 1 + 1; omega⟩
     n8:=hn8
     bb:=by show W.heap.size ≤ zs + 1 + 1 + 1; omega }
   obtain ⟨num0,hnum0⟩ : ∃ num0 : List Nat,num0 = List.replicate n 0:=⟨_,rfl⟩
   have hcast : castL num0 = List.replicate n 0:=by rw [hnum0]; unfold castL; rw [List.map_replicate]; rfl
   have hlen0 : num0.length = n:=by rw [hnum0,List.length_replicate]
   have hz0 : ∀ v,nth num0 v = 0:=fun v => by
    false_or_by_contra
    rename_i hne
    have h9:=nth_in hne
    rw [hnum0,nth_eq _ _ (by rw [← hnum0]; exact h9),List.getElem_replicate] at hne
    exact hne rfl
   have hW : SeW L 0 num0 num0 l [] WI:=by
    subst hL
    exact {
     c:=hIy
     cf:=hIg
     num:=by rw [hcast]; exact (H4.out.1.2.1.below b4I).mono (by have:=H2.out.1.2.2.1.size; exact this)
     low:=by rw [hcast]; exact (H6.out.1.2.1.below b6I).mono (by show W.heap.size ≤ W4.heap.size; omega)
     hd:=(HK.out.1.below hI.bel).mono (by show W.heap.size ≤ W6.heap.size; omega)
     stk:=⟨⟨_,hIx,Go.Dfl.Own.nil _ _ _ _⟩,hIf,by show zs < zs + 1 + 1 + 1; omega⟩
     imm:=fun q _ _ => rfl
     bel:=Below.refl _ _
     top:=by show zs + 1 + 1 + 1 ≤ WI.heap.size; omega }
   have hnL : L.n = n:=by rw [hL]
   have hR : RowsAre L (fun v => suc g.es v):=by
    subst hL
    refine ⟨fun v hv => ?_,fun v hv w hw => ?_,rfl⟩
    ·show nth (listsTo g.es n g.es.length) v = castL (suc g.es v)
     rw [listsTo_nth hv,succK_suc HV.out.1 (by omega),Int.toNat_natCast]; rfl
    ·have h9:=suc_node HV.out.1 hw
     rw [HV.out.2,Int.toNat_natCast] at h9; exact h9
   have hTI : TI (Ev L fun v => suc g.es v) n [] 0 num0 l []:=TI.start hlen0 HK.out.2.1 (fun v _ => hz0 v) (fun v hv => by rw [HK.out.2.2.1 v hv]; decide)
   have hEv : (Ev L fun v => suc g.es v) = eG g:=by
    funext a b
    unfold Ev eG
    rw [hnL,HV.out.2,Int.toNat_natCast]
   rw [hEv] at hTI
   have hpt : L.bc = zs + 1∧L.bn = bn∧L.bl = bl∧L.bs = zs∧L.bu = bu∧L.bf = zs + 1 + 1∧L.bh = bh:=by rw [hL]; exact ⟨rfl,rfl,rfl,rfl,rfl,rfl,rfl⟩
   have hsh : L.sn = sn∧L.cn = cn∧L.sh = sh∧L.ch = ch∧L.B0 = W.heap.size∧L.W0 = WI:=by rw [hL]; exact ⟨rfl,rfl,rfl,rfl,rfl,rfl⟩
   obtain ⟨c0, -⟩:=H2.out.1.1.below b2I
   have HP:=Lib.hid (And.intro hS (And.intro hR (And.intro hEv (And.intro hnL (And.intro hpt (And.intro hsh b0I))))))
   have HQ:=Lib.hid (And.intro hW (And.intro hTI hlen0))
   clear hS hR hEv hnL hpt hsh b0I hW hTI hlen0 hL hIx hIy hIz hIf hIg b2I b4I b6I r0 r1 r2 r3 r4 r5 qn ql qh o1 o2 o3 e1 e2 e3 hzb hsI hI hnum0 hcast hz0 hszn c1
   have HZS:=Lib.hid hzs
   clear hzs
   go_wp2_with fail
   clear c0
   go_loopw [35] (fun x wr => ∃ (v cnt : Nat) (num low : List Nat) (hd : List Int),v ≤ n∧x = .int .i64 (v : Int)∧Hid (SeW L cnt num low hd [] wr∧TI (eG g) n [] cnt num hd []∧low.length = n∧∀ x,x < v→nth num x ≠ 0)) (fun x _ => n - (intOf x).toNat)
   case atStart => exact ⟨0,0,num0,num0,l,by omega,rfl,HQ.out.1,HQ.out.2.1,HQ.out.2.2,fun x hx => by omega⟩
   case round =>
    obtain ⟨v,cnt,num,low,hd,hv,rfl,hh⟩:=hrel
    have HI:=Lib.hid hh.out
    clear hh
    obtain ⟨p1,p2,p3,p4,p5,p6,p7⟩:=HP.out.2.2.2.2.1
    obtain ⟨k1,k2,k3,k4,k5,k6⟩:=HP.out.2.2.2.2.2.1
    have hnL:=HP.out.2.2.2.1
    have u2:=HI.out.1.stays ⟨HP.out.1.xn.2.1,HP.out.1.xn.2.2⟩ HP.out.1.xn.1
    have u7:=HI.out.1.stays ⟨HP.out.1.xh.2.1,HP.out.1.xh.2.2⟩ HP.out.1.xh.1
    have u6:=HI.out.1.stays ⟨HP.out.1.xf.2.1,HP.out.1.xf.2.2⟩ HP.out.1.xf.1
    rw [HP.out.2.1.fv] at u6
    unfold visV at u6
    rw [p2,k1,k2,hnL] at u2
    rw [p7,k3,k4,hnL] at u7
    rw [p1,p2,p3,p4,p5,p6,p7] at u6
    by_cases hvt : v < n
    ·have hvl : (v : Int) < (n : Int):=by omega
     obtain ⟨a1,a2, -⟩:=HI.out.1.rdN (by rw [hnL]; exact HI.out.2.1.lenN) (x:=v) (by rw [hnL]; exact hvt)
     rw [k1] at a1
     rw [k1,k2,hnL] at a2
     by_cases h0 : nth num v = 0
     ·rw [h0] at a1
      have hti:=HI.out.2.1
      rw [← HP.out.2.2.1] at hti
      have hcall:=tvisit_any L HP.out.1 (fun v => suc g.es v) HP.out.2.1 n v [] cnt num low hd [] wr HI.out.1 (by rw [hnL]; exact hti) (by rw [hnL]; exact HI.out.2.2.1) (by rw [hnL]; exact hvt) h0 (fun z hz => by cases hz) (by rw [hnL]; omega)
      rw [p1,p2,p3,p4,p5,p6,p7] at hcall
      have HCALL:=Lib.hid hcall
      have HNL:=Lib.hid hnL
      clear hcall hti p1 p2 p3 p4 p5 p6 p7 k1 k2 k3 k4 k5 k6 hnL
      go_wp2_with fail
      refine HCALL.out.mono ?_
      rintro e Y ⟨rfl,cnt',num',low',hd',stk',q1,q2⟩
      rw [HP.out.2.2.1,HNL.out] at q2
      have hse:=q2.inv.empty
      subst hse
      have HY:=Lib.hid (And.intro q1 (And.intro q2.inv (And.intro q2.lenL (show ∀ x,x < v + 1→nth num' x ≠ 0 from fun x hx => by
       by_cases e : x = v
       ·rw [e]; exact q2.vis
       ·rw [q2.keepN x (by omega) (HI.out.2.2.2 x (by omega))]; exact HI.out.2.2.2 x (by omega)))))
      clear q1 q2
      go_wp2_with fail
      go_roundw
      case rel => exact ⟨v + 1,cnt',num',low',hd',by omega,by go_num,HY.out⟩
      case measure => simp [intOf]; omega
     ·have w1 : (((nth num v : Nat) : Int) == 0) = false:=by simp; exact h0
      have HY : Hid (∀ x,x < v + 1→nth num x ≠ 0):=Lib.hid fun x hx => by
       by_cases e : x = v
       ·rw [e]; exact h0
       ·exact HI.out.2.2.2 x (by omega)
      clear h0 p1 p2 p3 p4 p5 p6 p7 k1 k2 k3 k4 k5 k6 hnL
      go_wp2_with fail
      go_roundw
      case rel => exact ⟨v + 1,cnt,num,low,hd,by omega,by go_num,HI.out.1,HI.out.2.1,HI.out.2.2.1,HY.out⟩
      case measure => simp [intOf]; omega
    ·obtain rfl : n = v:=by omega
     have hfin:=HI.out.1.hd
     rw [k5,k3,k4,hnL] at hfin
     have hbel:=HI.out.1.bel
     rw [k5,k6] at hbel
     have HF:=Lib.hid (And.intro hfin hbel)
     clear hfin hbel p1 p2 p3 p4 p5 p6 p7 k1 k2 k3 k4 k5 k6 hnL
     go_wp2_with fail
     go_ret
     refine ⟨sh,ch,hd,by rw [HV.out.2]; rfl,by rw [HV.out.2,Int.toNat_natCast]; exact HF.out.1,⟨by rw [HV.out.2,Int.toNat_natCast]; exact HI.out.2.1.lenH,fun x hx => ?_⟩,HP.out.2.2.2.2.2.2.trans HF.out.2⟩
     rw [HV.out.2,Int.toNat_natCast] at hx
     exact HI.out.2.1.fin HI.out.2.2.2 hx
end Go.Proofs.YtgblfjccccdidaaGreat
end
section
namespace Go.Proofs.YtgblfjccccdidaaGreat
open Go.RowKit Go.Dfl Go.Gra Go.Tj
theorem sLeast : SliceOf Tryz.prog 143 3 (.int .i64 0) 1 8:=⟨Tryz.underlying143,info_parts (P:=Tryz.prog) (e:=3) (by kernel_rfl)⟩
structure HpF (keep : Nat→Prop) (W W' : World) : Prop where
 os : W'.os = W.os
 tape : W'.tape = W.tape
 out : W'.output = W.output
 size : W.heap.size ≤ W'.heap.size
 blk : ∀ q,keep q→W'.heap[q]? = W.heap[q]?
theorem HpF.refl (keep : Nat→Prop) (W : World) : HpF keep W W:=⟨rfl,rfl,rfl,Nat.le_refl _,fun _ _ => rfl⟩
theorem HpF.trans {keep : Nat→Prop} {A B C : World} (h : HpF keep A B) (k : HpF keep B C) : HpF keep A C:=⟨k.os.trans h.os,k.tape.trans h.tape,k.out.trans h.out,Nat.le_trans h.size k.size,fun q hq => (k.blk q hq).trans (h.blk q hq)⟩
structure HpV (keep : Nat→Prop) (bq B : Nat) (s : Option Addr) (n c : Nat) (l : List Nat) (W : World) : Prop where
 cell : W.cell? ⟨bq,0,none⟩ = some (.slice s n c)
 own : OwnI W B 3 (.slice s n c) (castL l)
 len : l.length = n
 frz : W.frozen? ⟨bq,0,none⟩ = false
 nb : (Value.slice s n c).ownBlock ≠ some bq
 nk : ¬ keep bq
 rk : ∀ q,(Value.slice s n c).ownBlock = some q→¬ keep q
 kb : ∀ q,keep q→q < W.heap.size
 top : B ≤ W.heap.size
def HpS (keep : Nat→Prop) (bq B : Nat) (l : List Nat) (W : World) : Prop:=∃ s n c,HpV keep bq B s n c l W
section
variable {keep : Nat→Prop} {bq B n c : Nat} {s : Option Addr} {l : List Nat} {W W' : World}
theorem HpV.in (h : HpV keep bq B s n c l W) : bq < W.heap.size:=World.block_lt_of_cell? _ _ h.cell
theorem HpV.rd (h : HpV keep bq B s n c l W) {i : Nat} (hi : i < n) : W.cell? ⟨blk s,ofs s + i,none⟩ = some (.int .i64 ((nth l i : Nat) : Int))∧(∀ Y,(Instr.indexAt 143 (.slice s n c) (.int .i64 (i : Int))).run Tryz.prog Y = .ok (.pointer (some ⟨blk s,ofs s + i,none⟩)) Y)∧W.frozen? ⟨blk s,ofs s + i,none⟩ = false:=by
 have hl : (castL l).length = n:=by rw [castL_len]; exact h.len
 obtain ⟨a9,c9,he,hm9,hidx,hcell, -⟩:=h.own.lst.out1 sLeast
 rw [hl] at he hm9 hidx hcell
 simp only [Value.slice.injEq] at he
 obtain ⟨rfl, -,rfl⟩:=he
 refine ⟨?_,fun Y => by have:=hidx .i64 (i : Int) (by omega) (by omega) Y; rw [Int.toNat_natCast] at this; exact this,h.own.frozen (by omega) _⟩
 have:=hcell i hi
 rw [castL_nth (by rw [h.len]; exact hi)] at this
 exact this
theorem HpV.max (h : HpV keep bq B s n c l W) : n < 9223372036854775808:=by
 obtain ⟨a9,c9,he,hm9,hidx,hcell,hb⟩:=h.own.lst.out1 sLeast
 rw [castL_len,h.len] at hm9 hb
 omega
theorem HpV.blk (h : HpV keep bq B s n c l W) (h0 : 0 < n) : (Value.slice s n c).ownBlock = some (blk s):=own_blkG h.own (by rw [castL_len]; exact h.len) h0
theorem HpV.set (h : HpV keep bq B s n c l W) {i : Nat} (hi : i < n) (x : Nat) : HpV keep bq B s n c (l.set i x) (W.setCell ⟨Go.Dfl.blk s,ofs s + i,none⟩ (.int .i64 (x : Int)))∧HpF keep W (W.setCell ⟨Go.Dfl.blk s,ofs s + i,none⟩ (.int .i64 (x : Int))):=by
 have hb:=h.blk (by omega)
 have hne : bq ≠ Go.Dfl.blk s:=fun e => h.nb (by rw [hb,e])
 refine ⟨⟨?_, ?_,by rw [List.length_set]; exact h.len,by rw [World.frozen?_setCell]; exact h.frz,h.nb,h.nk,h.rk,fun q hq => by rw [World.size_setCell]; exact h.kb q hq,by rw [World.size_setCell]; exact h.top⟩,⟨rfl,rfl,rfl,by rw [World.size_setCell]; exact Nat.le_refl _,fun q hq => ?_⟩⟩
 ·rw [World.cell?_setCell_other _ _ _ _ (by intro e; exact hne (by have:=congrArg Addr.block e; simpa using this.symm))]; exact h.cell
 ·have:=h.own.set i (x : Int); rw [castL_set] at this; exact this
 ·have hq2 : q ≠ Go.Dfl.blk s:=fun e => h.rk _ hb (e ▸ hq)
  rw [Below.heap_setCell _ _ _ _ hq2]
theorem HpV.swap (h : HpV keep bq B s n c l W) {i j : Nat} (hi : i < n) (hj : j < n) :
  HpV keep bq B s n c (Go.Hpl.swp l i j) ((W.setCell ⟨Go.Dfl.blk s,ofs s + i,none⟩ (.int .i64 ((nth l j : Nat) : Int))).setCell ⟨Go.Dfl.blk s,ofs s + j,none⟩ (.int .i64 ((nth l i : Nat) : Int)))∧HpF keep W ((W.setCell ⟨Go.Dfl.blk s,ofs s + i,none⟩ (.int .i64 ((nth l j : Nat) : Int))).setCell ⟨Go.Dfl.blk s,ofs s + j,none⟩ (.int .i64 ((nth l i : Nat) : Int))):=by
 have h1:=h.set hi (nth l j)
 have h2:=h1.1.set hj (nth l i)
 exact ⟨h2.1,h1.2.trans h2.2⟩
theorem HpV.below (h : HpV keep bq B s n c l W) (hb : Below W.heap.size W W') : HpV keep bq B s n c l W'∧HpF keep W W':=by
 have hlt : bq < W.heap.size:=h.in
 refine ⟨⟨hb.cell (p:=⟨bq,0,none⟩) hlt |>.trans h.cell,h.own.below hb,h.len, ?_,h.nb,h.nk,h.rk,fun q hq => Nat.lt_of_lt_of_le (h.kb q hq) hb.size,Nat.le_trans h.top hb.size⟩,⟨hb.os,hb.tape,hb.output,hb.size,fun q hq => hb.block q (h.kb q hq)⟩⟩
 rw [World.frozen?_of_block (a:=⟨bq,0,none⟩) (hb.block bq hlt)]; exact h.frz
end
def hpV (bq : Nat) : Value:=.iface 142 (.pointer (some ⟨bq,0,none⟩))
theorem m_push (a : Addr) (w : World) : (method 300 142 (.pointer (some a)) "Push").run Tryz.prog w = .ok (163, .pointer (some a)) w := by kernel_rfl
theorem m_pop (a : Addr) (w : World) : (method 300 142 (.pointer (some a)) "Pop").run Tryz.prog w = .ok (162, .pointer (some a)) w := by kernel_rfl
theorem method_by {P : Program} {t e f : Nat} {name : String} (h : ((P.info? t).bind (fun i => i.methods.find? (·.name == name))).map (fun m => (m.path,m.func)) = some (#[],some (f,false))) (n : Nat) (a : Addr) (w : World) (hu : (underlying t).run P w = .ok (.pointer e) w) : (method (n + 1) t (.pointer (some a)) name).run P w = ((loadVar e a).run P w).andThen fun v w' => .ok (f,v) w':=by
 obtain ⟨m,hm,hx⟩:=Option.map_eq_some_iff.1 h
 obtain ⟨i,hi,hm⟩:=Option.bind_eq_some_iff.1 hm
 simp only [Prod.mk.injEq] at hx
 obtain ⟨h1,h3⟩:=hx
 have hw : ∀ (xt : Array Nat) (s1 s2 : ByteArray),Builtin.ssaWrapNilChk_ xt t #[.pointer (some a),.string s1,.string s2] = pure (.pointer (some a)):=fun _ _ _ => rfl
 simp [method,typeInfo,Sem.run_bind,Sem.run_pure,hi,hm,h1,h3,follow,receiverAt,Place.get,hu,hw,strVal,asAddr]
def HpR (keep : Nat→Prop) (bq B : Nat) (s : Option Addr) (n c : Nat) (l : List Nat) (W : World) (e : Ending) (W' : World) : Prop:=e = .returned (.tuple #[])∧HpV keep bq B s n c l W'∧HpF keep W W'
set_option maxHeartbeats 1600000 in
set_option maxRecDepth 100000 in
theorem mLen_any (s : Option Addr) (n c : Nat) (W : World) : Calls Tryz.prog 103 #[.slice s n c] W fun e W' => e = .returned (.int .i64 (n : Int))∧W' = W:=by
 go_enter Tryz.func103,Tryz.ntmps103
 go_wp2_with fail
 go_ret
 exact ⟨rfl,rfl⟩
set_option maxHeartbeats 1600000 in
set_option maxRecDepth 100000 in
theorem mLess_any (keep : Nat→Prop) (bq B : Nat) (s : Option Addr) (n c : Nat) (l : List Nat) (i j : Nat) (W : World) (h : HpV keep bq B s n c l W) (hi : i < n) (hj : j < n) : Calls Tryz.prog 161 #[.slice s n c,.int .i64 (i : Int),.int .i64 (j : Int)] W fun e W' => e = .returned (.bool (decide (nth l i < nth l j)))∧Below W.heap.size W W':=by
 obtain ⟨a1,a2, -⟩:=h.rd hi
 obtain ⟨b1,b2, -⟩:=h.rd hj
 generalize nth l i = x at a1 ⊢
 generalize nth l j = y at b1 ⊢
 have HB:=Lib.hid (Below.refl W.heap.size W)
 clear h hi hj
 go_enter Tryz.func161,Tryz.ntmps161
 by_cases hxy : x < y
 ·have w1 : decide ((x : Int) < (y : Int)) = true:=decide_eq_true (by omega)
  have w2 : decide (x < y) = true:=decide_eq_true hxy
  go_wp2_with fail
  go_quiet (fail)
  go_wp2_with fail
  go_ret
  exact ⟨by rw [w2]; rfl,below_drewN HB.out _⟩
 ·have w1 : decide ((x : Int) < (y : Int)) = false:=decide_eq_false (by omega)
  have w2 : decide (x < y) = false:=decide_eq_false hxy
  go_wp2_with fail
  go_quiet (fail)
  go_wp2_with fail
  go_ret
  exact ⟨by rw [w2]; rfl,below_drewN HB.out _⟩
set_option maxHeartbeats 1600000 in
set_option maxRecDepth 100000 in
theorem mSwap_any (keep : Nat→Prop) (bq B : Nat) (s : Option Addr) (n c : Nat) (l : List Nat) (i j : Nat) (W : World) (h : HpV keep bq B s n c l W) (hi : i < n) (hj : j < n) : Calls Tryz.prog 164 #[.slice s n c,.int .i64 (i : Int),.int .i64 (j : Int)] W (HpR keep bq B s n c (Go.Hpl.swp l i j) W):=by
 obtain ⟨a1,a2,a3⟩:=h.rd hi
 obtain ⟨b1,b2,b3⟩:=h.rd hj
 have hs:=h.swap hi hj
 have hd:=hs.1.below ((Below.refl _ _).drew)
 have HS:=Lib.hid (And.intro hd.1 (hs.2.trans hd.2))
 have c1 : (W.setCell ⟨blk s,ofs s + i,none⟩ (.int .i64 ((nth l j : Nat) : Int))).cell? ⟨blk s,ofs s + j,none⟩ = some (.int .i64 ((nth l j : Nat) : Int)):=by
  by_cases e : i = j
  ·subst e; exact World.cell?_setCell_same _ _ _ (by rw [a1])
  ·rw [World.cell?_setCell_other _ _ _ _ (by intro e9; have h9:=congrArg Addr.off e9; simp at h9; omega)]; exact b1
 generalize nth l i = x at *
 generalize nth l j = y at *
 clear h hi hj hs hd
 go_enter Tryz.func164,Tryz.ntmps164
 go_region
 go_end0
 exact ⟨rfl,HS.out⟩
theorem hp_method {keep : Nat→Prop} {bq B n c f : Nat} {s : Option Addr} {l : List Nat} {W : World} {name : String} (hv : HpV keep bq B s n c l W) (h : ((Tryz.prog.info? 142).bind (fun i => i.methods.find? (·.name == name))).map (fun m => (m.path,m.func)) = some (#[],some (f,false))) :
  (method 300 142 (.pointer (some ⟨bq,0,none⟩)) name).run Tryz.prog W = .ok (f,.slice s n c) W:=by
 rw [method_by h 299 _ W (run_underlying Tryz.underlying142 W)]
 have hc:=hv.cell
 go_simp
theorem q_len : ((Tryz.prog.info? 142).bind (fun i => i.methods.find? (·.name == "Len"))).map (fun m => (m.path, m.func)) = some (#[], some (103, false)) := by kernel_rfl
theorem q_less : ((Tryz.prog.info? 142).bind (fun i => i.methods.find? (·.name == "Less"))).map (fun m => (m.path, m.func)) = some (#[], some (161, false)) := by kernel_rfl
theorem q_swap : ((Tryz.prog.info? 142).bind (fun i => i.methods.find? (·.name == "Swap"))).map (fun m => (m.path, m.func)) = some (#[], some (164, false)) := by kernel_rfl
def HpU (keep : Nat→Prop) (bq B : Nat) (s : Option Addr) (n c m : Nat) (l : List Nat) (W W' : World) : Prop:=HpF keep W W'∧∃ l',HpV keep bq B s n c l' W'∧l'.Perm l∧Go.Hpl.HeapN l' m∧∀ k,m ≤ k→nth l' k = nth l k
set_option maxHeartbeats 1600000 in
set_option maxRecDepth 100000 in
theorem hUp_any (keep : Nat→Prop) (bq B : Nat) (s : Option Addr) (n c : Nat) (l : List Nat) (j : Nat) (W : World) (h : HpV keep bq B s n c l W) (hj : j < n) (hu : Go.Hpl.UpI l n j) : Calls Tryz.prog 132 #[hpV bq,.int .i64 (j : Int)] W fun e W' => e = .returned (.tuple #[])∧HpU keep bq B s n c n l W W':=by
 have HS:=Lib.hid (And.intro h (And.intro hj hu))
 clear h hj hu
 unfold hpV
 go_enter Tryz.func132,Tryz.ntmps132
 go_wp2_with fail
 go_loopw [1] (fun x wr => ∃ (j : Nat) (l' : List Nat),x = .int .i64 (j : Int)∧j < n∧Hid (HpF keep W wr∧HpV keep bq B s n c l' wr∧l'.Perm l∧Go.Hpl.UpI l' n j)) (fun x _ => (intOf x).toNat)
 case atStart => exact ⟨j,l,rfl,HS.out.2.1,HpF.refl _ _,HS.out.1,.refl _,HS.out.2.2⟩
 case round =>
  obtain ⟨j,l',rfl,hj,hh⟩:=hrel
  have HH:=Lib.hid hh.out
  clear hh
  have hm:=hp_method HH.out.2.1 q_less
  have hnb:=HH.out.2.1.max
  by_cases h0 : j = 0
  ·subst h0
   have HE : Hid (HpU keep bq B s n c n l W wr):=Lib.hid ⟨HH.out.1,l',HH.out.2.1,HH.out.2.2.1,HH.out.2.2.2.fin (.inl rfl),fun k hk => by
    have h1:=HH.out.2.1.len; have h2:=HS.out.1.len
    rw [nth_out _ _ (by omega),nth_out _ _ (by omega)]⟩
   clear hm hnb
   go_wp2_with fail
   go_end0
   exact ⟨rfl,HE.out⟩
  ·obtain ⟨i,hi⟩ : ∃ i : Nat,i = (j - 1) / 2:=⟨_,rfl⟩
   have hij : i < j:=by omega
   have hq : wrap64 ((wrap64 ((j : Int) - 1)).tdiv 2) = (i : Int):=by
    rw [show wrap64 ((j : Int) - 1) = (j : Int) - 1 by unfold wrap64; omega,show (j : Int) - 1 = ((j - 1 : Nat) : Int) by omega,show (2 : Int) = ((2 : Nat) : Int) by rfl, ← Int.ofNat_tdiv, ← hi]
    unfold wrap64; omega
   have w0 : ((i : Int) == (j : Int)) = false:=by simpa using (by omega : ¬ (i : Int) = (j : Int))
   have hl:=mLess_any keep bq B s n c l' j i wr HH.out.2.1 hj (by omega)
   have HI:=Lib.hid (And.intro hi hij)
   clear hi hij h0 hnb
   go_wp2_with fail
   refine hl.mono ?_
   rintro e w1 ⟨rfl,b1⟩
   have hv1:=HH.out.2.1.below b1
   have H1:=Lib.hid (And.intro hv1.1 (HH.out.1.trans hv1.2))
   clear hl hv1 b1 hm
   by_cases hlt : nth l' j < nth l' i
   ·have w2 : decide (nth l' j < nth l' i) = true:=decide_eq_true hlt
    have hm:=hp_method H1.out.1 q_swap
    have hw:=mSwap_any keep bq B s n c l' i j w1 H1.out.1 (by have:=HI.out.2; omega) hj
    have HL:=Lib.hid hlt
    clear hlt
    rw [w2]
    go_wp2_with fail
    refine hw.mono ?_
    rintro e w2 ⟨rfl,h2,f2⟩
    have hln : l'.length = n:=H1.out.1.len
    have hiln : i < l'.length:=by have:=HI.out.2; omega
    have HR : Hid (HpF keep W w2∧HpV keep bq B s n c (Go.Hpl.swp l' i j) w2∧(Go.Hpl.swp l' i j).Perm l∧Go.Hpl.UpI (Go.Hpl.swp l' i j) n i):=Lib.hid ⟨H1.out.2.trans f2,h2,(Go.Hpl.swp_perm hiln (by omega)).trans HH.out.2.2.1,by
     have h8:=HI.out.1
     have h9:=HH.out.2.2.2.step hln.symm (by have:=HI.out.2; omega) hj (by rw [← h8]; exact HL.out)
     rw [← h8] at h9; exact h9⟩
    clear h2 f2 hw hm hln hiln
    go_wp2_with fail
    go_roundw
    case rel => exact ⟨i,_,rfl,by have:=HI.out.2; omega,HR.out⟩
    case measure => have:=HI.out.2; simp [intOf]; omega
   ·have w2 : decide (nth l' j < nth l' i) = false:=decide_eq_false hlt
    have HE : Hid (HpU keep bq B s n c n l W w1):=Lib.hid ⟨H1.out.2,l',H1.out.1,HH.out.2.2.1,HH.out.2.2.2.fin (.inr (by rw [← HI.out.1]; omega)),fun k hk => by
     have h1:=HH.out.2.1.len; have h2:=HS.out.1.len
     rw [nth_out _ _ (by omega),nth_out _ _ (by omega)]⟩
    clear hlt
    rw [w2]
    go_wp2_with fail
    go_end0
    exact ⟨rfl,HE.out⟩
def IsB (e : Ending) : Prop:=∃ b,e = .returned (.bool b)
set_option maxHeartbeats 3200000 in
set_option maxRecDepth 100000 in
theorem hDown_any (keep : Nat→Prop) (bq B : Nat) (s : Option Addr) (n c : Nat) (l : List Nat) (m : Nat) (W : World) (h : HpV keep bq B s n c l W) (hm : m ≤ n) (hn : n ≤ 65536) (hu : Go.Hpl.DnI l m 0) : Calls Tryz.prog 133 #[hpV bq,.int .i64 0,.int .i64 (m : Int)] W fun e W' => IsB e∧HpU keep bq B s n c m l W W':=by
 have HS:=Lib.hid (And.intro h (And.intro hm (And.intro hn hu)))
 clear h hm hn hu
 unfold hpV
 go_enter Tryz.func133,Tryz.ntmps133
 go_wp2_with fail
 go_loopw [7] (fun x wr => ∃ (i : Nat) (l' : List Nat),x = .int .i64 (i : Int)∧(i < m ∨ i = 0)∧Hid (HpF keep W wr∧HpV keep bq B s n c l' wr∧l'.Perm l∧Go.Hpl.DnI l' m i∧∀ k,m ≤ k→nth l' k = nth l k)) (fun x _ => m - (intOf x).toNat)
 case atStart => exact ⟨0,l,rfl,.inr rfl,HpF.refl _ _,HS.out.1,.refl _,HS.out.2.2.2,fun _ _ => rfl⟩
 case round =>
  obtain ⟨i,l',rfl,hi,hh⟩:=hrel
  have HH:=Lib.hid hh.out
  clear hh
  obtain ⟨j1,hj1⟩ : ∃ j1,j1 = 2 * i + 1:=⟨_,rfl⟩
  have hmn:=HS.out.2.1
  have hn8:=HS.out.2.2.1
  have hq1 : wrap64 (wrap64 (2 * (i : Int)) + 1) = (j1 : Int):=by unfold wrap64; omega
  have hq2 : wrap64 ((j1 : Int) + 1) = ((j1 + 1 : Nat) : Int):=by unfold wrap64; omega
  have hn0 : ¬ (j1 : Int) < 0:=by omega
  by_cases hjm : j1 < m
  ·have g1 : ¬ (m : Int) ≤ (j1 : Int):=by omega
   have HB : Hid (i < m∧m ≤ n∧j1 = 2 * i + 1):=Lib.hid ⟨by omega,hmn,hj1⟩
   have HJM:=Lib.hid hjm
   clear hj1 hmn hn8 hi hjm
   obtain ⟨j2,hj2⟩ : ∃ j2,j2 = j1 + 1:=⟨_,rfl⟩
   rw [← hj2] at hq2
   by_cases hj2m : j2 < m
   ·have g2 : (j2 : Int) < (m : Int):=by omega
    have hl:=mLess_any keep bq B s n c l' j2 j1 wr HH.out.2.1 (by have:=HB.out.2; omega) (by have:=HB.out.2; omega)
    have hm:=hp_method HH.out.2.1 q_less
    have HJ2:=Lib.hid (And.intro hj2 hj2m)
    clear hj2 hj2m
    go_wp2_with fail
    refine hl.mono ?_
    rintro e Z ⟨rfl,b1⟩
    have hv1:=HH.out.2.1.below b1
    have HZ:=Lib.hid (And.intro hv1.1 (HH.out.1.trans hv1.2))
    clear hl hv1 b1 hm
    by_cases hlt : nth l' j2 < nth l' j1
    ·rw [decide_eq_true hlt]
     have HJ : Hid ((0 < j2∧j2 < m)∧(j2 - 1) / 2 = i∧∀ c,0 < c→c < m→(c - 1) / 2 = i→nth l' j2 ≤ nth l' c):=Lib.hid ⟨⟨by have:=HJ2.out; omega,HJ2.out.2⟩,by have:=HJ2.out; have:=HB.out; omega,fun c c0 c1 c2 => by
      have h5:=HJ2.out; have h6:=HB.out
      rcases (by omega : c = j1 ∨ c = j2) with e | e
      ·subst e; omega
      ·subst e; exact Nat.le_refl _⟩
     obtain ⟨j,hj⟩ : ∃ j,j = j2:=⟨_,rfl⟩
     rw [← hj] at HJ hq2 ⊢
     clear hlt hj g2 HJ2
     have hle:=HJ.out.2.2
     have hl2:=mLess_any keep bq B s n c l' j i Z HZ.out.1 (by have:=HJ.out.1; have:=HB.out.2; omega) (by have:=HB.out.1; have:=HB.out.2; omega)
     have hm2:=hp_method HZ.out.1 q_less
     clear hle
     go_wp2_with fail
     refine hl2.mono ?_
     rintro e w1 ⟨rfl,b1⟩
     have hv1:=HZ.out.1.below b1
     have H1:=Lib.hid (And.intro hv1.1 (HZ.out.2.trans hv1.2))
     clear hl2 hv1 b1 hm2
     by_cases hlt : nth l' j < nth l' i
     ·have w2 : decide (nth l' j < nth l' i) = true:=decide_eq_true hlt
      have hm:=hp_method H1.out.1 q_swap
      have hw:=mSwap_any keep bq B s n c l' i j w1 H1.out.1 (by have:=HB.out.1; have:=HB.out.2; omega) (by have:=HJ.out.1; have:=HB.out.2; omega)
      have HL:=Lib.hid hlt
      clear hlt
      rw [w2]
      go_wp2_with fail
      refine hw.mono ?_
      rintro e w2 ⟨rfl,h2,f2⟩
      have hln : l'.length = n:=H1.out.1.len
      have HR : Hid (HpF keep W w2∧HpV keep bq B s n c (Go.Hpl.swp l' i j) w2∧(Go.Hpl.swp l' i j).Perm l∧Go.Hpl.DnI (Go.Hpl.swp l' i j) m j∧∀ k,m ≤ k→nth (Go.Hpl.swp l' i j) k = nth l k):=by
       have h5:=HJ.out; have h6:=HB.out
       refine Lib.hid ⟨H1.out.2.trans f2,h2,(Go.Hpl.swp_perm (by omega) (by omega)).trans HH.out.2.2.1,HH.out.2.2.2.1.step (by omega) h5.1.1 h5.1.2 h5.2.1 HL.out h5.2.2,fun k hk => ?_⟩
       rw [Go.Hpl.nth_swp (by omega) (by omega),if_neg (by omega),if_neg (by omega)]
       exact HH.out.2.2.2.2 k hk
      clear h2 f2 hw hm hln
      go_wp2_with fail
      go_roundw
      case rel => exact ⟨j,_,rfl,.inl HJ.out.1.2,HR.out⟩
      case measure => have:=HJ.out.1; have:=HJ.out.2.1; have:=HB.out; simp [intOf]; omega
     ·have w2 : decide (nth l' j < nth l' i) = false:=decide_eq_false hlt
      have HE : Hid (HpU keep bq B s n c m l W w1):=Lib.hid ⟨H1.out.2,l',H1.out.1,HH.out.2.2.1,HH.out.2.2.2.1.fin (fun c c0 c1 c2 => by have:=HJ.out.2.2 c c0 c1 c2; omega),HH.out.2.2.2.2⟩
      clear hlt
      rw [w2]
      go_wp2_with fail
      go_ret
      exact ⟨⟨_,rfl⟩,HE.out⟩
    ·rw [decide_eq_false hlt]
     have HJ : Hid ((0 < j1∧j1 < m)∧(j1 - 1) / 2 = i∧∀ c,0 < c→c < m→(c - 1) / 2 = i→nth l' j1 ≤ nth l' c):=Lib.hid ⟨⟨by have:=HB.out; omega,HJM.out⟩,by have:=HB.out; omega,fun c c0 c1 c2 => by
      have h5:=HJ2.out; have h6:=HB.out
      rcases (by omega : c = j1 ∨ c = j2) with e | e
      ·subst e; exact Nat.le_refl _
      ·subst e; omega⟩
     obtain ⟨j,hj⟩ : ∃ j,j = j1:=⟨_,rfl⟩
     rw [← hj] at HJ HB hq1 g1 hn0 hq2 ⊢
     clear hlt hj g2 HJ2
     have hle:=HJ.out.2.2
     have hl2:=mLess_any keep bq B s n c l' j i Z HZ.out.1 (by have:=HJ.out.1; have:=HB.out.2; omega) (by have:=HB.out.1; have:=HB.out.2; omega)
     have hm2:=hp_method HZ.out.1 q_less
     clear hle
     go_wp2_with fail
     refine hl2.mono ?_
     rintro e w1 ⟨rfl,b1⟩
     have hv1:=HZ.out.1.below b1
     have H1:=Lib.hid (And.intro hv1.1 (HZ.out.2.trans hv1.2))
     clear hl2 hv1 b1 hm2
     by_cases hlt : nth l' j < nth l' i
     ·have w2 : decide (nth l' j < nth l' i) = true:=decide_eq_true hlt
      have hm:=hp_method H1.out.1 q_swap
      have hw:=mSwap_any keep bq B s n c l' i j w1 H1.out.1 (by have:=HB.out.1; have:=HB.out.2; omega) (by have:=HJ.out.1; have:=HB.out.2; omega)
      have HL:=Lib.hid hlt
      clear hlt
      rw [w2]
      go_wp2_with fail
      refine hw.mono ?_
      rintro e w2 ⟨rfl,h2,f2⟩
      have hln : l'.length = n:=H1.out.1.len
      have HR : Hid (HpF keep W w2∧HpV keep bq B s n c (Go.Hpl.swp l' i j) w2∧(Go.Hpl.swp l' i j).Perm l∧Go.Hpl.DnI (Go.Hpl.swp l' i j) m j∧∀ k,m ≤ k→nth (Go.Hpl.swp l' i j) k = nth l k):=by
       have h5:=HJ.out; have h6:=HB.out
       refine Lib.hid ⟨H1.out.2.trans f2,h2,(Go.Hpl.swp_perm (by omega) (by omega)).trans HH.out.2.2.1,HH.out.2.2.2.1.step (by omega) h5.1.1 h5.1.2 h5.2.1 HL.out h5.2.2,fun k hk => ?_⟩
       rw [Go.Hpl.nth_swp (by omega) (by omega),if_neg (by omega),if_neg (by omega)]
       exact HH.out.2.2.2.2 k hk
      clear h2 f2 hw hm hln
      go_wp2_with fail
      go_roundw
      case rel => exact ⟨j,_,rfl,.inl HJ.out.1.2,HR.out⟩
      case measure => have:=HJ.out.1; have:=HJ.out.2.1; have:=HB.out; simp [intOf]; omega
     ·have w2 : decide (nth l' j < nth l' i) = false:=decide_eq_false hlt
      have HE : Hid (HpU keep bq B s n c m l W w1):=Lib.hid ⟨H1.out.2,l',H1.out.1,HH.out.2.2.1,HH.out.2.2.2.1.fin (fun c c0 c1 c2 => by have:=HJ.out.2.2 c c0 c1 c2; omega),HH.out.2.2.2.2⟩
      clear hlt
      rw [w2]
      go_wp2_with fail
      go_ret
      exact ⟨⟨_,rfl⟩,HE.out⟩
   ·have g2 : ¬ (j2 : Int) < (m : Int):=by omega
    have HJ : Hid ((0 < j1∧j1 < m)∧(j1 - 1) / 2 = i∧∀ c,0 < c→c < m→(c - 1) / 2 = i→nth l' j1 ≤ nth l' c):=Lib.hid ⟨⟨by have:=HB.out; omega,HJM.out⟩,by have:=HB.out; omega,fun c c0 c1 c2 => by
     have h6:=HB.out
     obtain rfl : c = j1:=by omega
     exact Nat.le_refl _⟩
    have HZ:=Lib.hid (And.intro HH.out.2.1 HH.out.1)
    obtain ⟨Z,hZ⟩ : ∃ Z,Z = wr:=⟨_,rfl⟩
    rw [← hZ] at HZ ⊢
    obtain ⟨j,hj⟩ : ∃ j,j = j1:=⟨_,rfl⟩
    rw [← hj] at HJ HB hq1 g1 hn0 hq2
    clear hj hj2 hj2m hZ
    have hle:=HJ.out.2.2
    have hl2:=mLess_any keep bq B s n c l' j i Z HZ.out.1 (by have:=HJ.out.1; have:=HB.out.2; omega) (by have:=HB.out.1; have:=HB.out.2; omega)
    have hm2:=hp_method HZ.out.1 q_less
    clear hle
    go_wp2_with fail
    refine hl2.mono ?_
    rintro e w1 ⟨rfl,b1⟩
    have hv1:=HZ.out.1.below b1
    have H1:=Lib.hid (And.intro hv1.1 (HZ.out.2.trans hv1.2))
    clear hl2 hv1 b1 hm2
    by_cases hlt : nth l' j < nth l' i
    ·have w2 : decide (nth l' j < nth l' i) = true:=decide_eq_true hlt
     have hm:=hp_method H1.out.1 q_swap
     have hw:=mSwap_any keep bq B s n c l' i j w1 H1.out.1 (by have:=HB.out.1; have:=HB.out.2; omega) (by have:=HJ.out.1; have:=HB.out.2; omega)
     have HL:=Lib.hid hlt
     clear hlt
     rw [w2]
     go_wp2_with fail
     refine hw.mono ?_
     rintro e w2 ⟨rfl,h2,f2⟩
     have hln : l'.length = n:=H1.out.1.len
     have HR : Hid (HpF keep W w2∧HpV keep bq B s n c (Go.Hpl.swp l' i j) w2∧(Go.Hpl.swp l' i j).Perm l∧Go.Hpl.DnI (Go.Hpl.swp l' i j) m j∧∀ k,m ≤ k→nth (Go.Hpl.swp l' i j) k = nth l k):=by
      have h5:=HJ.out; have h6:=HB.out
      refine Lib.hid ⟨H1.out.2.trans f2,h2,(Go.Hpl.swp_perm (by omega) (by omega)).trans HH.out.2.2.1,HH.out.2.2.2.1.step (by omega) h5.1.1 h5.1.2 h5.2.1 HL.out h5.2.2,fun k hk => ?_⟩
      rw [Go.Hpl.nth_swp (by omega) (by omega),if_neg (by omega),if_neg (by omega)]
      exact HH.out.2.2.2.2 k hk
     clear h2 f2 hw hm hln
     go_wp2_with fail
     go_roundw
     case rel => exact ⟨j,_,rfl,.inl HJ.out.1.2,HR.out⟩
     case measure => have:=HJ.out.1; have:=HJ.out.2.1; have:=HB.out; simp [intOf]; omega
    ·have w2 : decide (nth l' j < nth l' i) = false:=decide_eq_false hlt
     have HE : Hid (HpU keep bq B s n c m l W w1):=Lib.hid ⟨H1.out.2,l',H1.out.1,HH.out.2.2.1,HH.out.2.2.2.1.fin (fun c c0 c1 c2 => by have:=HJ.out.2.2 c c0 c1 c2; omega),HH.out.2.2.2.2⟩
     clear hlt
     rw [w2]
     go_wp2_with fail
     go_ret
     exact ⟨⟨_,rfl⟩,HE.out⟩
  ·have g1 : (m : Int) ≤ (j1 : Int):=by omega
   have HE : Hid (HpU keep bq B s n c m l W wr):=Lib.hid ⟨HH.out.1,l',HH.out.2.1,HH.out.2.2.1,HH.out.2.2.2.1.fin (fun c c0 c1 c2 => by omega),HH.out.2.2.2.2⟩
   clear hj1 hmn hn8 hi hjm
   go_wp2_with fail
   go_ret
   exact ⟨⟨_,rfl⟩,HE.out⟩
def HpP (keep : Nat→Prop) (bq B n : Nat) (l' : List Nat) (W W' : World) : Prop:=HpF keep W W'∧∃ s c,HpV keep bq B s n c l' W'
theorem HpV.app {keep : Nat→Prop} {bq B n c : Nat} {s : Option Addr} {l l' : List Nat} {W w3 : World} (h : HpV keep bq B s n c l W) {s' : Option Addr} {n' c' : Nat} {o : Obj} (hown : OwnI w3 B 3 (.slice s' n' c') (castL l')) (hl : l'.length = n') (hgr : (W.alloc o).grownBy w3 (Value.slice s n c).ownBlock)
  (hat : (Value.slice s' n' c').ownBlock = (Value.slice s n c).ownBlock ∨ (Value.slice s' n' c').ownBlock = some (W.alloc o).heap.size) :
  w3.cell? ⟨bq,0,none⟩ = some (.slice s n c)∧w3.frozen? ⟨bq,0,none⟩ = false∧HpP keep bq B n' l' W (w3.setCell ⟨bq,0,none⟩ (.slice s' n' c')):=by
 have hne : some bq ≠ (Value.slice s n c).ownBlock:=fun e => h.nb e.symm
 have hA:=grownBy_alloc W o
 have c3:=hgr.cell (hA.cell h.cell (by simp)) hne
 have f3 : w3.frozen? ⟨bq,0,none⟩ = false:=by
  rw [World.frozen?_of_block (a:=⟨bq,0,none⟩) ((hgr.block bq (by rw [World.size_alloc]; have:=h.in; omega) hne).trans (hA.block bq h.in (by simp)))]; exact h.frz
 have hne' : (Value.slice s' n' c').ownBlock ≠ some bq:=fun e9 => by
  rcases hat with e | e
  ·exact h.nb (by rw [← e]; exact e9)
  ·rw [e] at e9
   have:=Option.some.inj e9
   have:=h.in
   rw [World.size_alloc] at *
   omega
 have hsz : W.heap.size ≤ w3.heap.size:=Nat.le_trans (by rw [World.size_alloc]; omega) hgr.size
 refine ⟨c3,f3,⟨hgr.os,hgr.tape,hgr.output,by rw [World.size_setCell]; exact hsz,fun q hq => ?_⟩,s',c', ?_⟩
 ·have hqb : q ≠ bq:=fun e => h.nk (e ▸ hq)
  have hq1:=h.kb q hq
  rw [Below.heap_setCell _ _ _ _ hqb,hgr.block q (by rw [World.size_alloc]; omega) (fun e => h.rk q e.symm hq)]
  exact (grownBy_alloc W o).block q hq1 (by simp)
 ·have hcs : (w3.setCell ⟨bq,0,none⟩ (.slice s' n' c')).cell? ⟨bq,0,none⟩ = some (.slice s' n' c'):=World.cell?_setCell_same _ _ _ (by rw [c3])
  refine ⟨hcs,hown.setOther hne' _,hl,by rw [World.frozen?_setCell]; exact f3,hne',h.nk,fun q hq hk => ?_,fun q hq => by rw [World.size_setCell]; exact Nat.lt_of_lt_of_le (h.kb q hq) hsz,by rw [World.size_setCell]; exact Nat.le_trans h.top hsz⟩
  rcases hat with e | e
  ·exact h.rk q (by rw [← e]; exact hq) hk
  ·rw [e] at hq
   have:=Option.some.inj hq
   have:=h.kb q hk
   rw [World.size_alloc] at *
   omega
set_option maxHeartbeats 1600000 in
set_option maxRecDepth 100000 in
theorem mPush_any (keep : Nat→Prop) (bq B : Nat) (s : Option Addr) (n c : Nat) (l : List Nat) (x : Nat) (W : World) (h : HpV keep bq B s n c l W) (hn : n ≤ 65536) : Calls Tryz.prog 163 #[.pointer (some ⟨bq,0,none⟩),.iface 3 (.int .i64 (x : Int))] W fun e W' => e = .returned (.tuple #[])∧HpP keep bq B (n + 1) (l ++ [x]) W W':=by
 have t1:=h.cell
 have hll : (castL l).length < 17592186044416:=by rw [castL_len,h.len]; omega
 have hsB:=h.top
 have HS:=Lib.hid h
 have hss : ((castL l) ++ [(x : Int)]) = castL (l ++ [x]):=by unfold castL; rw [List.map_append]; rfl
 have HSS:=Lib.hid hss
 have HN:=Lib.hid h.len
 have ta : ∀ (xt : Nat) (y : Int) (Y : World),(Instr.typeAssert (.iface 3 (.int .i64 y)) xt 3 true).run Tryz.prog Y = .ok (.tuple #[.int .i64 y,.bool true]) Y:=fun _ _ _ => by kernel_rfl
 clear h hn hss
 go_enter Tryz.func163,Tryz.ntmps163
 go_wp2_with (at_builtin; refine wp_append1at (f:=Value.int .i64) sLeast rfl _ rfl _ _ rfl B _ (castL l) rfl (HS.out.own.alloc _) (x : Int) ⟨W.heap.size,0,none⟩ rfl (cell_alloc1 _ _ _) rfl hll (by omega) (le_alloc _ hsB) ?_; intro v' w3 hown hgr hat; obtain ⟨s9,c9,rfl⟩:=hown.shape (n:=n + 1) (by rw [List.length_append,castL_len,HN.out]; rfl); rw [HSS.out] at hown; have HO:=Lib.hid (HS.out.app hown (by rw [List.length_append,HN.out]; rfl) hgr hat); obtain ⟨o1,o2, -⟩:=HO.out; clear hown hgr hat t1)
 go_end0
 exact ⟨rfl,HO.out.2.2⟩
set_option maxHeartbeats 1600000 in
set_option maxRecDepth 100000 in
theorem mPop_any (keep : Nat→Prop) (bq B : Nat) (s : Option Addr) (n c : Nat) (l : List Nat) (W : World) (h : HpV keep bq B s (n + 1) c l W) : Calls Tryz.prog 162 #[.pointer (some ⟨bq,0,none⟩)] W fun e W' => e = .returned (.iface 3 (.int .i64 ((nth l n : Nat) : Int)))∧HpP keep bq B n (l.take n) W W':=by
 have c0:=h.cell
 have f0:=h.frz
 have hmx:=h.max
 obtain ⟨r1,r2, -⟩:=h.rd (i:=n) (by omega)
 obtain ⟨sa,sc,hcut,hown⟩:=h.own.cutBoth sLeast (k:=n) (by rw [castL_len,h.len]; omega)
 have hcu:=hcut .i64
 have hob : (Value.slice sa n sc).ownBlock = (Value.slice s (n + 1) c).ownBlock:=by
  obtain ⟨u,hu1,hu2, -⟩:=h.own.cutTo sLeast n (by rw [castL_len,h.len]; omega)
  have h9:=(hcut .i64 W).symm.trans (hu1 .i64 W)
  simp only [Result.ok.injEq,and_true] at h9
  rw [h9]; exact hu2
 have hq : wrap64 (n : Int) = (n : Int):=by unfold wrap64; omega
 have HE : Hid (∀ Z,Below W.heap.size W Z→HpP keep bq B n (l.take n) W (Z.setCell ⟨bq,0,none⟩ (.slice sa n sc))):=Lib.hid fun Z hb => by
  have hz:=h.below hb
  have hne : (Value.slice sa n sc).ownBlock ≠ some bq:=by rw [hob]; exact h.nb
  have hct : (castL l).take n = castL (l.take n):=by unfold castL; rw [List.map_take]
  have hox:=hown Z hz.1.own
  rw [hct] at hox
  refine ⟨hz.2.trans ⟨rfl,rfl,rfl,by rw [World.size_setCell]; exact Nat.le_refl _,fun q hq => Below.heap_setCell _ _ _ _ (fun e => h.nk (by have e9 : q = bq:=e; rw [← e9]; exact hq))⟩,sa,sc,World.cell?_setCell_same _ _ _ (by rw [hz.1.cell]),hox.setOther hne _,by rw [List.length_take,h.len]; omega,by rw [World.frozen?_setCell]; exact hz.1.frz,hne,h.nk,fun q hq hk => ?_,fun q hq => by rw [World.size_setCell]; exact hz.1.kb q hq,by rw [World.size_setCell]; exact hz.1.top⟩
  exact h.rk q (by rw [← hob]; exact hq) hk
 generalize nth l n = x at *
 clear h hcut hown hmx hob
 go_enter Tryz.func162,Tryz.ntmps162
 go_wp2_with fail
 go_ret
 exact ⟨rfl,HE.out _ (Below.refl _ _)⟩
end Go.Proofs.YtgblfjccccdidaaGreat
end
section
namespace Go.Proofs.YtgblfjccccdidaaGreat
open Go.RowKit Go.Dfl Go.Gra Go.Tj
def HpO (keep : Nat→Prop) (bq B : Nat) (l : List Nat) (W : World) : Prop:=HpS keep bq B l W∧Go.Hpl.HeapN l l.length
def HpPushed (keep : Nat→Prop) (bq B : Nat) (l : List Nat) (W W' : World) : Prop:=HpF keep W W'∧∃ l',HpO keep bq B l' W'∧l'.Perm l
set_option maxHeartbeats 1600000 in
set_option maxRecDepth 100000 in
theorem hPush_any (keep : Nat→Prop) (bq B : Nat) (l : List Nat) (x : Nat) (W : World) (h : HpO keep bq B l W) (hn : l.length < 65536) : Calls Tryz.prog 102 #[hpV bq,.iface 3 (.int .i64 (x : Int))] W fun e W' => e = .returned (.tuple #[])∧HpPushed keep bq B (l ++ [x]) W W':=by
 obtain ⟨⟨s,n,c,hv⟩,hh⟩:=h
 have hln:=hv.len
 rw [hln] at hn hh
 have hp:=mPush_any keep bq B s n c l x W hv (by omega)
 have hm:=m_push ⟨bq,0,none⟩
 have HU : Hid (Go.Hpl.UpI (l ++ [x]) (n + 1) n):=Lib.hid (by have h1:=Go.Hpl.UpI.start (l:=l) (by rw [hln]; exact hh) x; rw [hln] at h1; exact h1)
 have HL:=Lib.hid (And.intro hln hn)
 have hq : wrap64 (n : Int) = (n : Int):=by unfold wrap64; omega
 clear hv hh hln hn
 unfold hpV
 go_enter Tryz.func102,Tryz.ntmps102
 go_wp2_with fail
 refine hp.mono ?_
 rintro e W1 ⟨rfl,f1,s1,c1,h1⟩
 clear hp hm
 have hm:=hp_method h1 q_len
 have hup:=hUp_any keep bq B s1 (n + 1) c1 (l ++ [x]) n
 have H1:=Lib.hid (And.intro f1 h1)
 have hle:=mLen_any s1 (n + 1) c1 W1
 clear f1 h1
 go_wp2_with fail
 refine hle.mono ?_
 rintro e W1' ⟨rfl,rfl⟩
 have hu1:=hup _ H1.out.2 (by omega) HU.out
 unfold hpV at hu1
 clear hle hm hup
 go_wp2_with fail
 refine hu1.mono ?_
 rintro e W2 ⟨rfl,f2,l2,v2,p2,h2, -⟩
 have HE : Hid (HpPushed keep bq B (l ++ [x]) W W2):=Lib.hid ⟨H1.out.1.trans f2,l2,⟨⟨_,_,_,v2⟩,by rw [v2.len]; exact h2⟩,p2⟩
 clear f2 v2 p2 h2 hu1
 go_wp2_with fail
 go_end0
 exact ⟨rfl,HE.out⟩
def HpPopped (keep : Nat→Prop) (bq B : Nat) (l : List Nat) (W W' : World) : Prop:=HpF keep W W'∧∃ l',HpO keep bq B l' W'∧(nth l 0 :: l').Perm l
set_option maxHeartbeats 1600000 in
set_option maxRecDepth 100000 in
theorem hPop_any (keep : Nat→Prop) (bq B : Nat) (l : List Nat) (W : World) (h : HpO keep bq B l W) (h0 : 0 < l.length) (hn : l.length ≤ 65536) : Calls Tryz.prog 104 #[hpV bq] W fun e W' => e = .returned (.iface 3 (.int .i64 ((nth l 0 : Nat) : Int)))∧HpPopped keep bq B l W W':=by
 obtain ⟨⟨s,n1,c,hv⟩,hh⟩:=h
 have hln:=hv.len
 obtain ⟨n,rfl⟩ : ∃ n,n1 = n + 1:=⟨n1 - 1,by omega⟩
 have hm:=hp_method hv q_len
 have hq : wrap64 (n : Int) = (n : Int):=by unfold wrap64; omega
 have hle:=mLen_any s (n + 1) c W
 have HU:=Lib.hid (And.intro hv (And.intro hh (And.intro hln hn)))
 have hmp:=m_pop ⟨bq,0,none⟩
 clear hv hh hn h0 hln
 unfold hpV
 go_enter Tryz.func104,Tryz.ntmps104
 go_wp2_with fail
 refine hle.mono ?_
 rintro e W' ⟨rfl,rfl⟩
 clear hle hm
 have hm:=hp_method HU.out.1 q_swap
 have hw : Calls Tryz.prog 164 #[.slice s (n + 1) c,.int .i64 0,.int .i64 (n : Int)] W' (HpR keep bq B s (n + 1) c (Go.Hpl.swp l 0 n) W'):=mSwap_any keep bq B s (n + 1) c l 0 n W' HU.out.1 (by omega) (by omega)
 go_wp2_with fail
 refine hw.mono ?_
 rintro e W1 ⟨rfl,h1,f1⟩
 have hd:=hDown_any keep bq B s (n + 1) c (Go.Hpl.swp l 0 n) n W1 h1 (by omega) (by have:=HU.out; omega) (Go.Hpl.DnI.start (by have:=HU.out; omega) HU.out.2.1)
 unfold hpV at hd
 have H1:=Lib.hid (And.intro h1 f1)
 clear h1 f1 hw hm
 go_wp2_with fail
 refine hd.mono ?_
 rintro e W2 ⟨⟨b,rfl⟩,f2,l2,v2,p2,h2,e2⟩
 have hpp:=mPop_any keep bq B s n c l2 W2 v2
 have hx : nth l2 n = nth l 0:=by
  have:=HU.out
  rw [e2 n (Nat.le_refl _),Go.Hpl.nth_swp (by omega) (by omega),if_pos rfl]
 rw [hx] at hpp
 have hl2:=v2.len
 have HE : Hid (∀ Z,HpP keep bq B n (l2.take n) W2 Z→HpPopped keep bq B l W' Z):=Lib.hid fun Z hz => by
  obtain ⟨g1,s3,c3,g2⟩:=hz
  refine ⟨H1.out.2.trans (f2.trans g1),l2.take n,⟨⟨_,_,_,g2⟩,fun k k0 k1 => ?_⟩, ?_⟩
  ·rw [g2.len] at k1
   have:=h2 k k0 k1
   unfold nth at this ⊢
   simp only [List.getD_eq_getElem?_getD] at this ⊢
   rw [List.getElem?_take_of_lt (by omega),List.getElem?_take_of_lt k1]
   exact this
  ·have h7 : l2 = l2.take n ++ [nth l2 n]:=by
    have:=take_snoc l2 n (by omega)
    rw [← this,List.take_of_length_le (by omega)]
   have h8 : (l2.take n ++ [nth l2 n]).Perm l:=by rw [← h7]; exact p2.trans (Go.Hpl.swp_perm (by have:=HU.out; omega) (by have:=HU.out; omega))
   rw [hx] at h8
   exact (List.perm_append_comm (l₁:=[nth l 0])).trans h8
 clear f2 v2 p2 h2 e2 hx hl2 hd
 go_wp2_with fail
 refine hpp.mono ?_
 rintro e W3 ⟨rfl,h3⟩
 have HF:=Lib.hid (HE.out _ h3)
 clear hpp h3
 go_wp2_with fail
 go_ret
 exact ⟨rfl,HF.out⟩
end Go.Proofs.YtgblfjccccdidaaGreat
end
section
namespace Go.Spl
open Go.Dfl (nth nth_set nth_mem mem_nth nth_eq nth_ext nth_append take_snoc)
open Go.Kah (cnt row Ed)
def pendL (E : Ed) (n : Nat) : List Int:=(List.range n).map fun w => ((cnt E [] w : Nat) : Int)
def nextL (E : Ed) (n : Nat) : List (List Int):=(List.range n).map fun u => (row E u).map fun x : Nat => (x : Int)
theorem pendL_len (E : Ed) (n : Nat) : (pendL E n).length = n:=by simp [pendL]
theorem nextL_len (E : Ed) (n : Nat) : (nextL E n).length = n:=by simp [nextL]
theorem pendL_nth {E : Ed} {n w : Nat} (h : w < n) : nth (pendL E n) w = ((cnt E [] w : Nat) : Int):=by
 unfold pendL; rw [nth_eq _ _ (by simpa using h)]; simp
theorem nextL_nth {E : Ed} {n u : Nat} (h : u < n) : nth (nextL E n) u = (row E u).map fun x : Nat => (x : Int):=by
 unfold nextL; rw [nth_eq _ _ (by simpa using h)]; simp
theorem pendL_nil (n : Nat) : pendL [] n = List.replicate n 0:=nth_ext (by simp [pendL]) fun i hi => by
 rw [pendL_len] at hi
 rw [pendL_nth hi,nth_eq _ _ (by simpa using hi),List.getElem_replicate]; rfl
theorem nextL_nil (n : Nat) : nextL [] n = List.replicate n []:=nth_ext (by simp [nextL]) fun i hi => by
 rw [nextL_len] at hi
 rw [nextL_nth hi,nth_eq _ _ (by simpa using hi),List.getElem_replicate]; rfl
theorem pendL_add {E : Ed} {n u w : Nat} (hw : w < n) : pendL (E ++ [(u,w)]) n = (pendL E n).set w (nth (pendL E n) w + 1):=nth_ext (by rw [List.length_set,pendL_len,pendL_len]) fun i hi => by
 rw [pendL_len] at hi
 rw [pendL_nth hi,nth_set,pendL_len,pendL_nth hw,pendL_nth hi,Go.Kah.cnt_one]
 by_cases e : w = i
 ·subst e; rw [if_pos ⟨rfl,by simp⟩,if_pos ⟨rfl,hw⟩]; omega
 ·rw [if_neg (fun h => e h.1.symm),if_neg (fun h => e h.1)]; rfl
theorem nextL_add {E : Ed} {n u w : Nat} (hu : u < n) : nextL (E ++ [(u,w)]) n = (nextL E n).set u (nth (nextL E n) u ++ [(w : Int)]):=nth_ext (by rw [List.length_set,nextL_len,nextL_len]) fun i hi => by
 rw [nextL_len] at hi
 rw [nextL_nth hi,nth_set,nextL_len,nextL_nth hu,nextL_nth hi,Go.Kah.row_one]
 by_cases e : u = i
 ·subst e; rw [if_pos rfl,if_pos ⟨rfl,hu⟩,List.map_append]; rfl
 ·rw [if_neg (fun h => e h.symm),if_neg (fun h => e h.1)]; simp
end Go.Spl
namespace Go.Proofs.YtgblfjccccdidaaGreat
open Go.RowKit Go.Dfl Go.Gra Go.Tj
open Go.Kah (cnt row Ed Plus)
def hdN (l : List Int) (v : Int) : Nat:=(nth l v.toNat).toNat
def qE (g : G) (l : List Int) (k : Nat) : Ed:=((g.es.take k).filter fun e => decide (hdN l e.1 ≠ hdN l e.2)).map fun e => (hdN l e.2,hdN l e.1)
theorem qE_yes {g : G} {l : List Int} {k : Nat} (hk : k < g.es.length) (h : hdN l (nth g.es k).1 ≠ hdN l (nth g.es k).2) : qE g l (k + 1) = qE g l k ++ [(hdN l (nth g.es k).2,hdN l (nth g.es k).1)]:=by
 unfold qE
 rw [take_snoc _ _ hk,List.filter_append,List.map_append]
 simp [h]
theorem qE_no {g : G} {l : List Int} {k : Nat} (hk : k < g.es.length) (h : hdN l (nth g.es k).1 = hdN l (nth g.es k).2) : qE g l (k + 1) = qE g l k:=by
 unfold qE
 rw [take_snoc _ _ hk,List.filter_append,List.map_append]
 simp [h]
section
variable {g : G} {l : List Int}
theorem HdsAre.hd (h : HdsAre g l) {v : Nat} (hv : v < g.n.toNat) : nth l v = (hdN l (v : Int) : Nat)∧IsHd (eG g) v (hdN l (v : Int)):=by
 obtain ⟨m,h1,h2⟩:=h.2 v hv
 have : hdN l (v : Int) = m:=by unfold hdN; rw [Int.toNat_natCast,h1]; rfl
 rw [this]; exact ⟨h1,h2⟩
theorem rt_lt {a b : Nat} (hvg : VG g) (h : Rt (eG g) a b) (ha : a < g.n.toNat) : b < g.n.toNat:=h.closed (P:=fun x => x < g.n.toNat) (fun x y _ hy => by
 obtain ⟨e,he, -,h2⟩:=mem_suc.1 hy.2
 have:=(hvg.inn e he).2
 omega) ha
theorem HdsAre.lt (h : HdsAre g l) (hvg : VG g) {v : Nat} (hv : v < g.n.toNat) : hdN l (v : Int) < g.n.toNat:=rt_lt hvg (h.hd hv).2.1.1 hv
theorem HdsAre.self (h : HdsAre g l) (hvg : VG g) {v : Nat} (hv : v < g.n.toNat) : hdN l (hdN l (v : Int) : Int) = hdN l (v : Int) :=
 (h.hd (h.lt hvg hv)).2.unique ((h.hd hv).2.congr (h.hd hv).2.1)
theorem mem_qE {k a b : Nat} (hm : (b,a) ∈ qE g l k) : ∃ e ∈ g.es,hdN l e.1 = a∧hdN l e.2 = b∧a ≠ b:=by
 unfold qE at hm
 obtain ⟨e,he,h2⟩:=List.mem_map.1 hm
 rw [List.mem_filter,decide_eq_true_eq] at he
 simp only [Prod.mk.injEq] at h2
 exact ⟨e,List.mem_of_mem_take he.1,h2.2,h2.1,by rw [← h2.1, ← h2.2]; exact he.2⟩
theorem eG_rt (h : HdsAre g l) (hvg : VG g) {k a b : Nat} (hm : (b,a) ∈ qE g l k) : Rt (eG g) a b∧a ≠ b∧a < g.n.toNat∧b < g.n.toNat∧hdN l (a : Int) = a∧hdN l (b : Int) = b:=by
 obtain ⟨⟨x,y⟩,he,h1,h2,hne⟩:=mem_qE hm
 obtain ⟨⟨x0,x1⟩,y0,y1⟩:=hvg.inn _ he
 dsimp only at h1 h2 x0 x1 y0 y1
 obtain ⟨x,rfl⟩ : ∃ z : Nat,x = (z : Int):=⟨x.toNat,by omega⟩
 obtain ⟨y,rfl⟩ : ∃ z : Nat,y = (z : Int):=⟨y.toNat,by omega⟩
 have hx : x < g.n.toNat:=by omega
 have hy : y < g.n.toNat:=by omega
 have hE : eG g x y:=⟨hx,mem_suc.2 ⟨_,he,rfl,rfl⟩⟩
 have kx:=(h.hd hx).2
 have ky:=(h.hd hy).2
 have sx:=h.self hvg hx
 have sy:=h.self hvg hy
 have lx:=h.lt hvg hx
 have ly:=h.lt hvg hy
 rw [h1] at kx sx lx
 rw [h2] at ky sy ly
 exact ⟨(kx.1.2.trans (Rt.one hE)).trans ky.1.1,hne,lx,ly,sx,sy⟩
theorem plus_rt (h : HdsAre g l) (hvg : VG g) {k a b : Nat} (hp : Plus (fun b a => (b,a) ∈ qE g l k) b a) : Rt (eG g) a b:=by
 induction hp with
 | one h1 => exact (eG_rt h hvg h1).1
 | cons h1 _ ih => exact ih.trans (eG_rt h hvg h1).1
theorem qE_acyclic (h : HdsAre g l) (hvg : VG g) (k c : Nat) : ¬ Plus (fun b a => (b,a) ∈ qE g l k) c c:=fun hp => by
 have key : ∀ a,(c,a) ∈ qE g l k→Rt (eG g) c a→False:=fun a hm hr => by
  obtain ⟨h1,hne,ha,hc,sa,sc⟩:=eG_rt h hvg hm
  have e1:=(h.hd ha).2
  have e2:=(h.hd hc).2
  rw [sa] at e1
  rw [sc] at e2
  exact hne (e1.unique (e2.congr ⟨hr,h1⟩))
 cases hp with
 | one h1 => exact key c h1 (.refl c)
 | cons h1 h2 => exact key _ h1 (plus_rt h hvg h2)
end
def OrdIs (g : G) (l : List Int) (L : List Nat) : Prop:=Go.Kah.Whole (qE g l g.es.length) g.n.toNat (fun v => hdN l (v : Int) = v) L
def compK (l : List Int) (h k : Nat) : List Int:=castL ((List.range k).filter fun v => decide (hdN l (v : Int) = h))
structure PartsAre (g : G) (ls : List (List Int)) (of : List Int) : Prop where
 ex : ∃ l L,HdsAre g l∧OrdIs g l L∧ls = L.map (fun h => compK l h g.n.toNat)∧of.length = g.n.toNat∧∀ v,v < g.n.toNat→∃ i : Nat,nth of v = (i : Int)∧i < L.length∧nth L i = hdN l (v : Int)
theorem qE_inn {g : G} {l : List Int} (h : HdsAre g l) (hvg : VG g) (k : Nat) : ∀ b a,(b,a) ∈ qE g l k→(hdN l (b : Int) = b∧b < g.n.toNat)∧hdN l (a : Int) = a∧a < g.n.toNat:=fun b a hm => by
 obtain ⟨-, -,ha,hb,sa,sb⟩:=eG_rt h hvg hm
 exact ⟨⟨sb,hb⟩,sa,ha⟩
theorem qE_len (g : G) (l : List Int) (k : Nat) : (qE g l k).length ≤ g.es.length:=by
 unfold qE
 rw [List.length_map]
 exact Nat.le_trans (List.length_filter_le _ _) (by rw [List.length_take]; omega)
theorem cnt_le (E : Ed) (D : List Nat) (w : Nat) : cnt E D w ≤ E.length:=List.length_filter_le _ _
theorem row_le (E : Ed) (u : Nat) : (row E u).length ≤ E.length:=by unfold row; rw [List.length_map]; exact List.length_filter_le _ _
def rdyK (g : G) (l : List Int) (k : Nat) : List Nat:=(List.range k).filter fun v => decide (hdN l (v : Int) = v) && decide (cnt (qE g l g.es.length) [] v = 0)
theorem rdy_yes {g : G} {l : List Int} {k : Nat} (h1 : hdN l (k : Int) = k) (h2 : cnt (qE g l g.es.length) [] k = 0) : rdyK g l (k + 1) = rdyK g l k ++ [k]:=by
 unfold rdyK; rw [List.range_succ,List.filter_append]; simp [h1,h2]
theorem rdy_no {g : G} {l : List Int} {k : Nat} (h : ¬ (hdN l (k : Int) = k∧cnt (qE g l g.es.length) [] k = 0)) : rdyK g l (k + 1) = rdyK g l k:=by
 unfold rdyK; rw [List.range_succ,List.filter_append]
 have : (decide (hdN l (k : Int) = k) && decide (cnt (qE g l g.es.length) [] k = 0)) = false:=by
  rw [Bool.and_eq_false_iff,decide_eq_false_iff_not,decide_eq_false_iff_not]; exact Classical.not_and_iff_not_or_not.1 h
 simp [this]
theorem rdy_nd (g : G) (l : List Int) (k : Nat) : (rdyK g l k).Nodup:=List.nodup_range.filter _
theorem mem_rdy {g : G} {l : List Int} {k v : Nat} : v ∈ rdyK g l k ↔ v < k∧hdN l (v : Int) = v∧cnt (qE g l g.es.length) [] v = 0:=by
 unfold rdyK; rw [List.mem_filter,List.mem_range,Bool.and_eq_true,decide_eq_true_eq,decide_eq_true_eq]
theorem rdy_start {g : G} {l : List Int} {R : List Nat} (hR : R.Perm (rdyK g l g.n.toNat)) : Go.Kah.HB (qE g l g.es.length) g.n.toNat (fun v => hdN l (v : Int) = v) [] R (Go.Spl.pendL (qE g l g.es.length) g.n.toNat) :=
 .start (Go.Spl.pendL_len _ _) (hR.nodup_iff.2 (rdy_nd _ _ _)) (fun w hw => Go.Spl.pendL_nth hw) fun w => by
  rw [hR.mem_iff,mem_rdy]
  constructor
  ·rintro ⟨h1,h2,h3⟩; exact ⟨h2,h1,by rw [Go.Spl.pendL_nth h1,h3]; rfl⟩
  ·rintro ⟨h1,h2,h3⟩; rw [Go.Spl.pendL_nth h2] at h3; exact ⟨h2,h1,by omega⟩
end Go.Proofs.YtgblfjccccdidaaGreat
namespace Go.Dfl
open Go.RowKit
theorem Own.same {α : Type} {f : α→Value} {w w' : World} {base : Nat} {e : TypeId} {v : Value} {l : List α} (h : Own f w base e v l) (hk : ∀ q,v.ownBlock = some q→w'.heap[q]? = w.heap[q]?) : Own f w' base e v l:=by
 obtain ⟨h1,h2 | ⟨g,cap,cur,rfl,hg,hh,r⟩⟩:=h
 ·exact ⟨h1,.inl h2⟩
 ·exact ⟨h1,.inr ⟨g,cap,cur,rfl,hg,(hk g rfl).trans hh,r⟩⟩
end Go.Dfl
namespace Go.Proofs.YtgblfjccccdidaaGreat
open Go.RowKit Go.Dfl Go.Gra Go.Tj
theorem HpV.wider {keep keep' : Nat→Prop} {bq B n c : Nat} {s : Option Addr} {l : List Nat} {W : World} (h : HpV keep bq B s n c l W) (hk : ∀ q,keep' q→q ≠ bq∧(Value.slice s n c).ownBlock ≠ some q∧q < W.heap.size) : HpV keep' bq B s n c l W :=
 ⟨h.cell,h.own,h.len,h.frz,h.nb,fun e => (hk _ e).1 rfl,fun q hq e => (hk q e).2.1 hq,fun q hq => (hk q hq).2.2,h.top⟩
theorem HpO.setCell {keep : Nat→Prop} {bq B : Nat} {l : List Nat} {W : World} (h : HpO keep bq B l W) {p : Addr} (hp : keep p.block) (u : Value) : HpO keep bq B l (W.setCell p u):=by
 obtain ⟨⟨s,n,c,hv⟩,hh⟩:=h
 refine ⟨⟨s,n,c, ?_,hv.own.setOther (fun e => hv.rk _ e hp) u,hv.len,by rw [World.frozen?_setCell]; exact hv.frz,hv.nb,hv.nk,hv.rk,fun q hq => by rw [World.size_setCell]; exact hv.kb q hq,by rw [World.size_setCell]; exact hv.top⟩,hh⟩
 rw [World.cell?_setCell_other _ _ _ _ (by intro e; first | exact hv.nk (by have e9:=congrArg Addr.block e; simp only at e9; rw [e9]; exact hp) | exact hv.nk (by have e9:=congrArg Addr.block e; simp only at e9; rw [← e9]; exact hp))]
 exact hv.cell
theorem own_hpf {keep : Nat→Prop} {W W' : World} (hf : HpF keep W W') {base : Nat} {e : TypeId} {v : Value} {l : List Int} (h : OwnI W base e v l) (hk : ∀ q,v.ownBlock = some q→keep q) : OwnI W' base e v l:=h.same fun q hq => hf.blk q (hk q hq)
theorem HpF.below {keep : Nat→Prop} {W W' W3 : World} (hf : HpF keep W W') {A : Nat} (hb : Below A W3 W) (hk : ∀ q,q < A→keep q) : Below A W3 W' :=
 ⟨hf.os.trans hb.os,hf.tape.trans hb.tape,hf.out.trans hb.output,Nat.le_trans hb.size hf.size,fun q hq => (hf.blk q (hk q hq)).trans (hb.block q hq)⟩
theorem ownN_same {w w' : World} {base : Nat} {eo : TypeId} {v : Value} {vs : List Value} {ll : List (List Int)} (h : OwnN IIg w base eo v vs ll) (hk : ∀ q,Foot v vs q→w'.heap[q]? = w.heap[q]?) : OwnN IIg w' base eo v vs ll :=
 ⟨h.out.same fun q e => hk q (.inl e),h.len,fun i hi => Go.Dfl.Own.same (h.inn i hi) fun q e => hk q (.inr ⟨i,by rw [h.len]; exact hi,e⟩),h.sep,h.apart⟩
theorem KhP.hpf {keep : Nat→Prop} {W3 W W' : World} {B4 n pc nc : Nat} {ps ns : Option Addr} {P : List Int} {vs : List Value} {ll : List (List Int)} (h : KhP W3 B4 n pc nc ps ns P vs ll W) (hf : HpF keep W W') (h3 : ∀ q,q < W3.heap.size→keep q) (hp : ∀ q,(Value.slice ps n pc).ownBlock = some q→keep q) (hr : ∀ q,Foot (.slice ns n nc) vs q→keep q) : KhP W3 B4 n pc nc ps ns P vs ll W' :=
 ⟨own_hpf hf h.pend hp,h.plen,h.pb,ownN_same h.rows fun q hq => hf.blk q (hr q hq),h.llen,hf.below h.bel h3,h.siz⟩
theorem hpO_new {keep : Nat→Prop} (W : World) (hk : ∀ q,keep q→q < W.heap.size) :
  HpO keep (W.heap.size + 1) W.heap.size [] ((W.alloc (.cells #[] 3)).alloc (.cells #[.slice (some ⟨W.heap.size,0,none⟩) 0 0] 143)):=by
 have z1 : (W.alloc (.cells #[] 3)).heap.size = W.heap.size + 1:=World.size_alloc _ _
 have g2:=grownBy_alloc (W.alloc (.cells #[] 3)) (.cells #[.slice (some ⟨W.heap.size,0,none⟩) 0 0] 143)
 have c1:=cell_alloc1 (W.alloc (.cells #[] 3)) (.slice (some ⟨W.heap.size,0,none⟩) 0 0) 143
 have f1:=frozen_alloc1 (W.alloc (.cells #[] 3)) (.slice (some ⟨W.heap.size,0,none⟩) 0 0) 143
 rw [z1] at c1 f1
 have ho : OwnI (W.alloc (.cells #[] 3)) W.heap.size 3 (.slice (some ⟨W.heap.size,0,none⟩) 0 0) (castL []) :=
  ⟨by simp [castL],.inr ⟨W.heap.size,0, #[],rfl,Nat.le_refl _,(by show (W.heap.push _)[W.heap.size]? = some _; simp),by simp [castL],by unfold maxLen; omega,by simp,by simp [castL]⟩⟩
 refine ⟨⟨some ⟨W.heap.size,0,none⟩,0,0,c1,ho.alloc _,rfl,f1, ?_,fun e => ?_,fun q hq e => ?_,fun q hq => ?_, ?_⟩,fun c c0 c1 => by simp at c1⟩
 ·intro e
  have e9 : some W.heap.size = some (W.heap.size + 1):=e
  simp at e9
 ·have:=hk _ e; omega
 ·have e9 : some W.heap.size = some q:=hq
  have:=Option.some.inj e9
  have:=hk _ e; omega
 ·have:=hk _ hq; rw [World.size_alloc,z1]; omega
 ·rw [World.size_alloc,z1]; omega
end Go.Proofs.YtgblfjccccdidaaGreat
namespace Go.Proofs.YtgblfjccccdidaaGreat
open Go.RowKit Go.Dfl Go.Gra Go.Tj
theorem hpF_set (W : World) (p : Addr) (u : Value) : HpF (fun q => q ≠ p.block∧q < W.heap.size) W (W.setCell p u) :=
 ⟨rfl,rfl,rfl,by rw [World.size_setCell]; exact Nat.le_refl _,fun q hq => by rw [Below.heap_setCell _ _ _ _ hq.1]⟩
def kpX (B6 : Nat) (xv : Value) (q : Nat) : Prop:=q < B6 ∨ xv.ownBlock = some q
structure LpM (W1 : World) (B4 B6 Bx n pc nc xc : Nat) (ps ns xs : Option Addr) (us : List Value) (ll : List (List Int)) (R : List Nat) (P X : List Int) (Z : World) : Prop where
 hp : HpO (kpX B6 (.slice xs n xc)) (B6 + 1) B6 R Z
 kh : KhP W1 B4 n pc nc ps ns P us ll Z
 ix : OwnI Z Bx 3 (.slice xs n xc) X
 xl : X.length = n
 w1 : W1.heap.size ≤ B6
 pB : ∀ q,(Value.slice ps n pc).ownBlock = some q→q < B6
 fB : ∀ q,Foot (.slice ns n nc) us q→q < B6
 xB : B6 ≤ Bx
section
variable {W1 : World} {B4 B6 Bx n pc nc xc : Nat} {ps ns xs : Option Addr} {us : List Value} {ll : List (List Int)} {R R' : List Nat} {P X : List Int} {Z Z' : World}
theorem LpM.op (h : LpM W1 B4 B6 Bx n pc nc xc ps ns xs us ll R P X Z) (hf : HpF (kpX B6 (.slice xs n xc)) Z Z') (hO : HpO (kpX B6 (.slice xs n xc)) (B6 + 1) B6 R' Z') : LpM W1 B4 B6 Bx n pc nc xc ps ns xs us ll R' P X Z' :=
 ⟨hO,h.kh.hpf hf (fun _ hq => .inl (Nat.lt_of_lt_of_le hq h.w1)) (fun q hq => .inl (h.pB q hq)) (fun q hq => .inl (h.fB q hq)),own_hpf hf h.ix (fun _ hq => .inr hq),h.xl,h.w1,h.pB,h.fB,h.xB⟩
theorem LpM.setP (h : LpM W1 B4 B6 Bx n pc nc xc ps ns xs us ll R P X Z) {b : Nat} (hb : b < n) (x : Int) : LpM W1 B4 B6 Bx n pc nc xc ps ns xs us ll R (P.set b x) X (Z.setCell ⟨blk ps,ofs ps + b,none⟩ (.int .i64 x)):=by
 have hob:=own_blkG h.kh.pend h.kh.plen (by omega)
 have h1:=h.pB _ hob
 refine ⟨h.hp.setCell (p:=⟨blk ps,ofs ps + b,none⟩) (.inl h1) _,h.kh.set hb x,h.ix.setOther (p:=⟨blk ps,ofs ps + b,none⟩) (fun e => ?_) _,h.xl,h.w1,h.pB,h.fB,h.xB⟩
 have h2 : Bx ≤ blk ps:=(h.ix.lt _ e).1
 have h3:=h.xB
 omega
theorem LpM.setX (h : LpM W1 B4 B6 Bx n pc nc xc ps ns xs us ll R P X Z) {b : Nat} (hb : b < n) (x : Int) : LpM W1 B4 B6 Bx n pc nc xc ps ns xs us ll R P (X.set b x) (Z.setCell ⟨blk xs,ofs xs + b,none⟩ (.int .i64 x)):=by
 have hob:=own_blkG h.ix h.xl (by omega)
 have h1:=(h.ix.lt _ hob).1
 have h2:=h.xB
 have hk : ∀ q,q < B6→q ≠ blk xs:=fun q hq e => by omega
 refine ⟨h.hp.setCell (p:=⟨blk xs,ofs xs + b,none⟩) (.inr hob) _,h.kh.hpf (hpF_set Z ⟨blk xs,ofs xs + b,none⟩ (.int .i64 x)) (fun q hq => ⟨hk q (Nat.lt_of_lt_of_le hq h.w1),Nat.lt_of_lt_of_le hq h.kh.bel.size⟩) (fun q hq => ⟨hk q (h.pB q hq),(h.kh.pend.lt q hq).2⟩) (fun q hq => ⟨hk q (h.fB q hq),(h.kh.rows.foot kIIg q hq).2⟩),h.ix.set b x,by rw [List.length_set]; exact h.xl,h.w1,h.pB,h.fB,h.xB⟩
theorem LpM.start (hO : HpO (fun q => q < B6) (B6 + 1) B6 R Z) (hk : KhP W1 B4 n pc nc ps ns P us ll Z) (hx : OwnI Z' Z.heap.size 3 (.slice xs n xc) X) (hb : Below Z.heap.size Z Z') (xl : X.length = n) (w1 : W1.heap.size ≤ B6) (pB : ∀ q,(Value.slice ps n pc).ownBlock = some q→q < B6) (fB : ∀ q,Foot (.slice ns n nc) us q→q < B6) : LpM W1 B4 B6 Z.heap.size n pc nc xc ps ns xs us ll R P X Z':=by
 obtain ⟨⟨s,m,c,hv⟩,hh⟩:=hO
 have hv':=hv.below hb
 have hb6 : B6 ≤ Z.heap.size:=hv.top
 have hin:=hv.in
 refine ⟨⟨⟨s,m,c,hv'.1.wider fun q hq => ?_⟩,hh⟩,hk.below hb,hx,xl,w1,pB,fB,hb6⟩
 rcases hq with hq | hq
 ·exact ⟨fun e => by omega,fun e => hv.rk q e hq,by have:=hb.size; omega⟩
 ·obtain ⟨h1,h2⟩:=hx.lt q hq
  exact ⟨fun e => by omega,fun e => by have:=(hv.own.lt q e).2; omega,h2⟩
end
end Go.Proofs.YtgblfjccccdidaaGreat
end
section
namespace Go.Gra
open Go.Dfl (nth nth_mem mem_nth nth_eq nth_ext)
def swp (e : Int × Int) : Int × Int:=(e.2,e.1)
end Go.Gra
namespace Go.Proofs.YtgblfjccccdidaaGreat
open Go.RowKit Go.Dfl Go.Gra
theorem results_cell1 {fn : Func} {p : Tmp} {ty : TypeId} (h : fn.results = #[.cell p ty]) (tmps : Array Value) (P : Program) (w : World) :
  (results fn tmps).run P w = ((asAddr (tmps.getD p undef)).run P w).andThen fun a w₁ => (loadVar ty a).run P w₁:=by
 simp only [results,h]
 simp [Sem.run_bind]
end Go.Proofs.YtgblfjccccdidaaGreat
end
section
namespace Go.Proofs.YtgblfjccccdidaaGreat
open Go.RowKit Go.Dfl Go.Gra Go.Tj
structure LoW (W0 : World) (n cnt bt B1 : Nat) (sl so : Option Addr) (ol : List Int) (vs : List Value) (ll : List (List Int)) (W : World) : Prop where
 c0 : W.cell? ⟨bt,0,none⟩ = some (.slice sl cnt cnt)
 c1 : W.cell? ⟨bt,1,none⟩ = some (.slice so n n)
 o : OwnI W W0.heap.size 3 (.slice so n n) ol
 p : OwnN IIg W W0.heap.size 32 (.slice sl cnt cnt) vs ll
 lo : ol.length = n
 lp : ll.length = cnt
 bo : (Value.slice so n n).ownBlock = some (blk so)
 bp : (Value.slice sl cnt cnt).ownBlock = some (blk sl)
 ne : blk so ≠ blk sl∧(blk so ≠ bt∧blk so < B1)∧(blk sl ≠ bt∧blk sl < B1)∧bt < B1∧B1 ≤ W.heap.size∧W0.heap.size ≤ bt
 rows : ∀ i,i < cnt→∀ q,(nth vs i).ownBlock = some q→B1 ≤ q
 bel : Below W0.heap.size W0 W
section
variable {W0 : World} {n cnt bt B1 : Nat} {sl so : Option Addr} {ol : List Int} {vs : List Value} {ll : List (List Int)} {W W' : World}
theorem LoW.lv (h : LoW W0 n cnt bt B1 sl so ol vs ll W) : vs.length = cnt:=by rw [h.p.len,h.lp]
theorem LoW.grown (h : LoW W0 n cnt bt B1 sl so ol vs ll W) {row : Option Nat} (hg : W.grownBy W' row) (hr : ∀ q,row = some q→B1 ≤ q∧∀ i,i < cnt→(nth vs i).ownBlock ≠ some q) : LoW W0 n cnt bt B1 sl so ol vs ll W':=by
 obtain ⟨h3,⟨h5,h5'⟩,⟨h6,h6'⟩,h7,h8,h9⟩:=h.ne
 have hn : ∀ k,k < B1→some k ≠ row:=fun k hk e => by have:=(hr k e.symm).1; omega
 refine ⟨hg.cell h.c0 (hn bt h7),hg.cell h.c1 (hn bt h7),h.o.grown hg (.inr (by rw [h.bo]; exact hn _ (by omega))),h.p.grown kIIg hg fun q e hf => ?_,h.lo,h.lp,h.bo,h.bp,⟨h3,⟨h5,h5'⟩,⟨h6,h6'⟩,h7,Nat.le_trans h8 hg.size,h9⟩,h.rows, ?_⟩
 ·rcases hf with hf | ⟨i,hi,hf⟩
  ·rw [h.bp] at hf
   have:=(hr q e).1
   have:=Option.some.inj hf
   omega
  ·exact (hr q e).2 i (by rw [← h.lv]; exact hi) hf
 ·exact h.bel.grown hg h.bel.size fun q e => by have:=(hr q e).1; omega
theorem LoW.below (h : LoW W0 n cnt bt B1 sl so ol vs ll W) (hb : Below W.heap.size W W') : LoW W0 n cnt bt B1 sl so ol vs ll W':=h.grown (grownBy_below hb) (by simp)
theorem LoW.setO (h : LoW W0 n cnt bt B1 sl so ol vs ll W) (x : Nat) (z : Int) : LoW W0 n cnt bt B1 sl so (ol.set x z) vs ll (W.setCell ⟨blk so,ofs so + x,none⟩ (.int .i64 z)):=by
 obtain ⟨h3,⟨h5,h5'⟩,⟨h6,h6'⟩,h7,h8,h9⟩:=h.ne
 have g:=grownBy_setCell W ⟨blk so,ofs so + x,none⟩ (.int .i64 z)
 have hn : ∀ k,k ≠ blk so→some k ≠ some (blk so):=fun k hk e => hk (Option.some.inj e)
 refine ⟨g.cell h.c0 (hn bt (by omega)),g.cell h.c1 (hn bt (by omega)),h.o.set x z,h.p.grown kIIg g fun q e hf => ?_,by rw [List.length_set]; exact h.lo,h.lp,h.bo,h.bp,⟨h3,⟨h5,h5'⟩,⟨h6,h6'⟩,h7,Nat.le_trans h8 g.size,h9⟩,h.rows,h.bel.setCell (p:=⟨blk so,ofs so + x,none⟩) (h.o.lt _ h.bo).1 _⟩
 obtain rfl:=Option.some.inj e
 rcases hf with hf | ⟨i,hi,hf⟩
 ·rw [h.bp] at hf
  exact h3 (Option.some.inj hf).symm
 ·have:=h.rows i (by rw [← h.lv]; exact hi) _ hf
  dsimp only at this
  omega
theorem LoW.put (h : LoW W0 n cnt bt B1 sl so ol vs ll W) {a : Nat} (ha : a < cnt) {x : Value} {l : List Int} (hg : W.grownBy W' (nth vs a).ownBlock) (hx : IIg W' W0.heap.size x l) (hl : ∀ k,x.ownBlock = some k→(nth vs a).ownBlock = some k ∨ W.heap.size ≤ k) :
  LoW W0 n cnt bt B1 sl so ol (vs.set a x) (ll.set a l) (W'.setCell ⟨blk sl,ofs sl + a,none⟩ x):=by
 obtain ⟨h3,⟨h5,h5'⟩,⟨h6,h6'⟩,h7,h8,h9⟩:=h.ne
 have hv:=h.lv
 have hn : ∀ k,k < B1→some k ≠ (nth vs a).ownBlock:=fun k hk e => by have:=h.rows a ha k e.symm; omega
 have g:=grownBy_setCell W' ⟨blk sl,ofs sl + a,none⟩ x
 have hs : ∀ k,k ≠ blk sl→some k ≠ some (blk sl):=fun k hk e => hk (Option.some.inj e)
 refine ⟨g.cell (hg.cell h.c0 (hn bt h7)) (hs bt (by omega)),g.cell (hg.cell h.c1 (hn bt h7)) (hs bt (by omega)),(h.o.grown hg (.inr (by rw [h.bo]; exact hn _ (by omega)))).setOther (p:=⟨blk sl,ofs sl + a,none⟩) (by rw [h.bo]; exact hs _ h3) _,h.p.put kIIg (by rw [h.lp]; exact ha) hg hx hl,h.lo,by rw [List.length_set]; exact h.lp,h.bo,h.bp,⟨h3,⟨h5,h5'⟩,⟨h6,h6'⟩,h7,Nat.le_trans h8 (Nat.le_trans hg.size g.size),h9⟩,fun i hi q hq => ?_,(h.bel.grown hg h.bel.size fun q e => (by have:=h.rows a ha q e; omega)).setCell (p:=⟨blk sl,ofs sl + a,none⟩) (h.p.out.lt _ h.bp).1 _⟩
 rw [nth_set] at hq
 split at hq
 ·rcases hl q hq with k | k
  ·exact h.rows a ha q k
  ·omega
 ·exact h.rows i hi q hq
theorem LoW.rdO (h : LoW W0 n cnt bt B1 sl so ol vs ll W) {x : Nat} (hx : x < n) :
  W.cell? ⟨blk so,ofs so + x,none⟩ = some (.int .i64 (nth ol x))∧(∀ Y,(Instr.indexAt 32 (.slice so n n) (.int .i64 (x : Int))).run Tryz.prog Y = .ok (.pointer (some ⟨blk so,ofs so + x,none⟩)) Y)∧W.frozen? ⟨blk so,ofs so + x,none⟩ = false:=own_int h.o h.lo hx
theorem LoW.rdP (h : LoW W0 n cnt bt B1 sl so ol vs ll W) {x : Nat} (hx : x < cnt) :
  W.cell? ⟨blk sl,ofs sl + x,none⟩ = some (nth vs x)∧(∀ Y,(Instr.indexAt 27 (.slice sl cnt cnt) (.int .i64 (x : Int))).run Tryz.prog Y = .ok (.pointer (some ⟨blk sl,ofs sl + x,none⟩)) Y)∧W.frozen? ⟨blk sl,ofs sl + x,none⟩ = false:=by
 obtain ⟨a9,c9,he,hm9,hidx,hcell, -⟩:=h.p.out.lst.out1 sRowsG
 rw [h.lv] at he hm9 hidx hcell
 simp only [Value.slice.injEq] at he
 obtain ⟨rfl, -,rfl⟩:=he
 exact ⟨hcell x hx,fun Y => by have:=hidx .i64 (x : Int) (by omega) (by omega) Y; rw [Int.toNat_natCast] at this; exact this,h.p.out.frozen (by rw [h.lv]; omega) _⟩
end
theorem compK_yes {l : List Int} {h v : Nat} (e : hdN l (v : Int) = h) : compK l h (v + 1) = compK l h v ++ [(v : Int)]:=by
 unfold compK castL; rw [List.range_succ,List.filter_append,List.map_append]; simp [e]
theorem compK_no {l : List Int} {h v : Nat} (e : hdN l (v : Int) ≠ h) : compK l h (v + 1) = compK l h v:=by
 unfold compK castL; rw [List.range_succ,List.filter_append]; simp [e]
theorem compK_le (l : List Int) (h v : Nat) : (compK l h v).length ≤ v:=by
 unfold compK; rw [castL_len]; exact Nat.le_trans (List.length_filter_le _ _) (by simp)
theorem comps_nth {l : List Int} {L : List Nat} {v j : Nat} (hj : j < L.length) : nth (L.map fun h => compK l h v) j = compK l (nth L j) v:=by
 rw [nth_eq _ _ (by rw [List.length_map]; exact hj),List.getElem_map,nth_eq _ _ hj]
theorem comps_step {l : List Int} {L : List Nat} (hnd : L.Nodup) {j v : Nat} (hj : j < L.length) (he : nth L j = hdN l (v : Int)) : (L.map fun h => compK l h v).set j (nth (L.map fun h => compK l h v) j ++ [(v : Int)]) = L.map fun h => compK l h (v + 1):=nth_ext (by simp) fun i hi => by
 rw [List.length_set,List.length_map] at hi
 rw [nth_set,List.length_map,comps_nth hj,comps_nth hi,comps_nth hi]
 by_cases e : j = i
 ·subst e
  rw [if_pos ⟨rfl,hj⟩,compK_yes he.symm]
 ·rw [if_neg (fun h9 : j = i∧_ => e h9.1),compK_no fun h9 => e ((List.getElem_inj hnd (h₀:=hj) (h₁:=hi)).1 (by rw [← nth_eq _ _ hj, ← nth_eq _ _ hi,he,h9]))]
def mksP (n cnt : Nat) : List Go.Dfl.N.Mk :=
 [Go.Dfl.N.mkS 1 140 139 32 cnt (.slice none 0 0) 1,Go.Dfl.N.mkS 4 143 142 3 n (.int .i64 0) 1,Go.Dfl.N.mkA 6 18 2 123 #[.slice none 0 0,.slice none 0 0]]
theorem raw_ownP {α : Type} {f : α→Value} {base : Nat} {w : World} {v : Value} {n : Nat} {e : TypeId} (x0 : α) (h : w.ownsRow base e 1 v n (madeCells (f x0).cells (n * 1)).toList) (hc : (f x0).cells = #[f x0]) : Go.Dfl.Own f w base e v (List.replicate n x0):=by
 rw [made_cells _ _ hc] at h
 unfold Go.Dfl.Own
 simpa using h
theorem LoW.start {W0 W2 : World} {n cnt : Nat} {bs : Nat→Nat} (h : Go.Dfl.N.MakesEnd (mksP n cnt) W0.heap.size W0 bs W2) :
  LoW W0 n cnt (bs 6) W2.heap.size (some ⟨bs 1,0,none⟩) (some ⟨bs 4,0,none⟩) (List.replicate n 0) (List.replicate cnt (.slice none 0 0)) (List.replicate cnt []) ((W2.setCell ⟨bs 6,0,none⟩ (.slice (some ⟨bs 1,0,none⟩) cnt cnt)).setCell ⟨bs 6,1,none⟩ (.slice (some ⟨bs 4,0,none⟩) n n)):=by
 obtain ⟨d1,d2,d3⟩:=h.is (Go.Dfl.N.mkS 1 140 139 32 cnt (.slice none 0 0) 1) (by simp [mksP])
 obtain ⟨b1,b2,b3'⟩:=h.is (Go.Dfl.N.mkS 4 143 142 3 n (.int .i64 0) 1) (by simp [mksP])
 obtain ⟨e1,e2,e3⟩:=h.is (Go.Dfl.N.mkA 6 18 2 123 #[.slice none 0 0,.slice none 0 0]) (by simp [mksP])
 have f3:=h.apart (Go.Dfl.N.mkS 4 143 142 3 n (.int .i64 0) 1) (by simp [mksP]) (Go.Dfl.N.mkS 1 140 139 32 cnt (.slice none 0 0) 1) (by simp [mksP]) (by simp [Go.Dfl.N.mkS])
 have f5:=h.apart (Go.Dfl.N.mkS 4 143 142 3 n (.int .i64 0) 1) (by simp [mksP]) (Go.Dfl.N.mkA 6 18 2 123 #[.slice none 0 0,.slice none 0 0]) (by simp [mksP]) (by simp [Go.Dfl.N.mkS,Go.Dfl.N.mkA])
 have f6:=h.apart (Go.Dfl.N.mkS 1 140 139 32 cnt (.slice none 0 0) 1) (by simp [mksP]) (Go.Dfl.N.mkA 6 18 2 123 #[.slice none 0 0,.slice none 0 0]) (by simp [mksP]) (by simp [Go.Dfl.N.mkS,Go.Dfl.N.mkA])
 have hg:=h.grown
 clear h
 simp only [Go.Dfl.N.mkS,Go.Dfl.N.mkA] at b1 b2 b3' d1 d2 d3 e1 e2 e3 f3 f5 f6
 generalize bs 4 = so at *
 generalize bs 1 = sl at *
 generalize bs 6 = bt at *
 have hb : Below W0.heap.size W0 W2:=(Below.refl _ _).grown hg (Nat.le_refl _) (by simp)
 have w0 : W2.cell? ⟨bt,0,none⟩ = some (.slice none 0 0):=by simp [World.cell?,e1]
 have w1 : W2.cell? ⟨bt,1,none⟩ = some (.slice none 0 0):=by simp [World.cell?,e1]
 have o:=(raw_ownP (f:=Value.int .i64) 0 b1 rfl)
 have p:=(raw_ownP (f:=fun x : Value => x) (.slice none 0 0) d1 rfl)
 have n01 : (⟨bt,0,none⟩ : Addr) ≠ ⟨bt,1,none⟩:=by simp
 have q0 : ((W2.setCell ⟨bt,0,none⟩ (.slice (some ⟨sl,0,none⟩) cnt cnt)).setCell ⟨bt,1,none⟩ (.slice (some ⟨so,0,none⟩) n n)).cell? ⟨bt,0,none⟩ = some (.slice (some ⟨sl,0,none⟩) cnt cnt):=by
  rw [World.cell?_setCell_other _ _ _ _ n01.symm]; exact World.cell?_setCell_same _ _ _ w0
 have q1 : ((W2.setCell ⟨bt,0,none⟩ (.slice (some ⟨sl,0,none⟩) cnt cnt)).setCell ⟨bt,1,none⟩ (.slice (some ⟨so,0,none⟩) n n)).cell? ⟨bt,1,none⟩ = some (.slice (some ⟨so,0,none⟩) n n) :=
  World.cell?_setCell_same _ _ _ (by rw [World.cell?_setCell_other _ _ _ _ n01]; exact w1)
 have g3:=grownBy_trans (grownBy_setCell W2 ⟨bt,0,none⟩ (.slice (some ⟨sl,0,none⟩) cnt cnt)) (grownBy_setCell _ ⟨bt,1,none⟩ (.slice (some ⟨so,0,none⟩) n n))
 have b3 : Below W0.heap.size W0 ((W2.setCell ⟨bt,0,none⟩ (.slice (some ⟨sl,0,none⟩) cnt cnt)).setCell ⟨bt,1,none⟩ (.slice (some ⟨so,0,none⟩) n n)):=hb.grown g3 hb.size fun q e => by have:=Option.some.inj e; dsimp only at this; omega
 have hsz:=g3.size
 refine ⟨q0,q1,o.grown g3 (.inr fun e => f5 (Option.some.inj e)),OwnN.grown kIIg (OwnN.made p (Go.Dfl.Own.nil _ _ _ _)) g3 fun q e hf => ?_,by simp,by simp,rfl,rfl,⟨f3,⟨f5,b3'⟩,⟨f6,d3⟩,e3,hsz,e2⟩,fun i hi q hq => ?_,b3⟩
 ·have e4 : bt = q:=Option.some.inj e
  rcases hf with hf | ⟨i,hi,hf⟩
  ·have e5 : sl = q:=Option.some.inj hf
   exact f6 (by rw [e4,e5])
  ·rw [nth_eq _ _ hi,List.getElem_replicate] at hf
   cases hf
 ·rw [nth_eq _ _ (by simpa using hi),List.getElem_replicate] at hq
  cases hq
end Go.Proofs.YtgblfjccccdidaaGreat
end
section
namespace Go.Proofs.YtgblfjccccdidaaGreat
open Go.RowKit Go.Dfl Go.Gra Go.Tj
open Go.Spl (pendL nextL pendL_len nextL_len pendL_nth nextL_nth pendL_nil nextL_nil pendL_add nextL_add)
def SplitR (g : G) (W : World) (e : Ending) (W' : World) : Prop:=∃ ls of lv vs ov,e = .returned (.agg #[lv,ov])∧PartsAre g ls of∧OwnN IIg W' W.heap.size 32 lv vs ls∧OwnI W' W.heap.size 3 ov of∧Below W.heap.size W W'
set_option maxHeartbeats 6400000 in
set_option maxRecDepth 100000 in
theorem gSplit_any (g : G) (cv : Value) (W : World) (h : Pairs W cv g.es) (hvg : VG g) : Calls Tryz.prog 79 #[GV g cv] W (SplitR g W):=by
 obtain ⟨ca,cc,rfl, -, -, -⟩:=pairs_rd h
 have hal:=(Below.refl W.heap.size W).alloc (Nat.le_refl _) (.cells #[.int .i64 g.n,.slice ca g.es.length cc] 71)
 have hbx:=BoxG.new W g.n (.slice ca g.es.length cc) 71
 have hal2:=(Below.refl _ _).alloc (Nat.le_refl (W.alloc (.cells #[.int .i64 g.n,.slice ca g.es.length cc] 71)).heap.size) (.cells #[.slice none 0 0,.slice none 0 0] 123)
 have hal3:=hal.trans (hal2.mono hal.size)
 have H0:=Lib.hid (And.intro (h.below hal3) (And.intro hal3 (hbx.below hal2)))
 have HPW:=Lib.hid h
 obtain ⟨n,hn⟩ : ∃ n : Nat,g.n = n:=⟨g.n.toNat,by have:=hvg.n0; omega⟩
 have hn8 : n ≤ 8192:=by have:=hvg.n1; omega
 have HV:=Lib.hid (And.intro hvg hn)
 unfold GV
 rw [hn] at H0 ⊢
 have hrb : ((W.alloc (.cells #[.int .i64 g.n,.slice ca g.es.length cc] 71)).alloc (.cells #[.slice none 0 0,.slice none 0 0] 123)).heap[W.heap.size + 1]? = some (.cells #[.slice none 0 0,.slice none 0 0] 123):=by
  have h9:=heap_alloc_new (W.alloc (.cells #[.int .i64 g.n,.slice ca g.es.length cc] 71)) (.cells #[.slice none 0 0,.slice none 0 0] 123)
  rw [World.size_alloc] at h9; exact h9
 have HRB0:=Lib.hid hrb
 rw [hn] at HRB0
 clear h hal hal2 hal3 hbx hvg hn hrb
 obtain ⟨c0,c1⟩:=H0.out.2.2
 go_enter Tryz.func79,Tryz.ntmps79
 go_wp2_with fail
 have hsu:=gSearch_any g (.slice ca g.es.length cc) _ H0.out.1 HV.out.1
 unfold GV at hsu
 rw [HV.out.2] at hsu
 refine hsu.mono ?_
 rintro e W1 ⟨ha,hc,l,rfl,hown,hds,b1⟩
 rw [HV.out.2,Int.toNat_natCast] at hown ⊢
 have hbx1:=H0.out.2.2.below b1
 have hW1:=H0.out.2.1.trans (b1.mono H0.out.2.1.size)
 have hrb1:=(b1.block _ (Array.getElem?_eq_some_iff.1 HRB0.out).1).trans HRB0.out
 have HRB:=Lib.hid (And.intro hrb1 (Array.getElem?_eq_some_iff.1 hrb1).1)
 have H1:=Lib.hid (And.intro hds (And.intro hW1 (And.intro hbx1 (hown.mono H0.out.2.1.size))))
 clear hsu hown b1 c0 c1 hbx1 hW1 hds hrb1 HRB0
 obtain ⟨c0,c1⟩:=H1.out.2.2.1
 go_wp2_with (at_make; refine wp_make (f:=Value.int .i64) 0 sIntG rfl _ rfl _ _ rfl .i64 .i64 _ _ n rfl rfl rfl rfl (by omega) (by unfold maxLen; omega) ?_)
 intro ps pc W4 hrow hb4
 have HR4:=Lib.hid (And.intro hrow hb4)
 obtain ⟨c0,c1⟩:=H1.out.2.2.1.below hb4
 clear hrow hb4
 go_wp2_with (at_make; refine wp_make (f:=fun x : Value => x) (.slice none 0 0) sRowsG rfl _ rfl _ _ rfl .i64 .i64 _ _ n rfl rfl rfl rfl (by omega) (by unfold maxLen; omega) ?_)
 intro ns nc W5 hrow hb5
 have hb35:=HR4.out.2.trans (hb5.mono HR4.out.2.size)
 have h5 : KhP W1 W4.heap.size n pc nc ps ns (pendL (qE g l 0) n) (List.replicate n (.slice none 0 0)) (nextL (qE g l 0) n) W5:=⟨by rw [show qE g l 0 = [] from rfl,pendL_nil]; exact HR4.out.1.below hb5,pendL_len _ _,fun q e => (HR4.out.1.lt q e).2,by rw [show qE g l 0 = [] from rfl,nextL_nil]; exact OwnN.made hrow (Go.Dfl.Own.nil _ _ _ _),nextL_len _ _,hb35,HR4.out.2.size⟩
 have H5:=Lib.hid h5
 obtain ⟨c0,c1⟩:=H1.out.2.2.1.below hb35
 clear hrow hb5 hb35 h5
 obtain ⟨ca',cc',he, -,hci,hcc⟩:=pairs_rd HPW.out
 simp only [Value.slice.injEq] at he
 obtain ⟨rfl, -,rfl⟩:=he
 have HCC:=Lib.hid hcc
 clear hcc
 have hel:=HV.out.1.len
 obtain ⟨B4,hB4⟩ : ∃ B4,B4 = W4.heap.size:=⟨_,rfl⟩
 rw [← hB4] at H5
 clear hB4
 go_wp2_with fail
 clear c0 c1
 go_loopw [32] (fun x wr => ∃ (i : Nat) (us : List Value),i ≤ g.es.length∧x = .int .i64 (i : Int)∧Hid (KhP W1 B4 n pc nc ps ns (pendL (qE g l i) n) us (nextL (qE g l i) n) wr)) (fun x _ => g.es.length - (intOf x).toNat)
 case atStart => exact ⟨0,_,by omega,rfl,H5.out⟩
 case round =>
  obtain ⟨i,us,hi,rfl,hh⟩:=hrel
  have HL:=Lib.hid hh.out
  clear hh
  by_cases hit : i < g.es.length
  ·have hil : (i : Int) < (g.es.length : Int):=by omega
   have hpc:=(HCC.out i hit).2
   obtain ⟨p0,p1⟩:=hpc wr (H1.out.2.1.trans (HL.out.bel.mono H1.out.2.1.size))
   have j1:=hci (i : Int) (by omega) (by omega)
   rw [Int.toNat_natCast] at j1
   have hin:=HV.out.1.nth hit
   have hyes:=qE_yes (g:=g) (l:=l) hit
   have hno:=qE_no (g:=g) (l:=l) hit
   obtain ⟨e,he⟩ : ∃ e,e = nth g.es i:=⟨_,rfl⟩
   rw [← he] at p0 p1 hin hyes hno
   obtain ⟨e1,e2⟩:=e
   dsimp only at p0 p1 hin hyes hno
   obtain ⟨a,rfl⟩ : ∃ a : Nat,e1 = (a : Int):=⟨e1.toNat,by omega⟩
   obtain ⟨b,rfl⟩ : ∃ b : Nat,e2 = (b : Int):=⟨e2.toNat,by omega⟩
   have hgn:=HV.out.2
   have han : a < n:=by omega
   have hbn : b < n:=by omega
   have hbx:=cells_new (W:=wr) (cs:=[.int .i64 (a : Int),.int .i64 (b : Int)]) (t:=60) rfl
   have hbA:=(Below.refl wr.heap.size wr).alloc (Nat.le_refl _) (.cells #[.int .i64 (a : Int),.int .i64 (b : Int)] 60)
   have HYN:=Lib.hid (And.intro hyes hno)
   have hB4w : B4 ≤ wr.heap.size:=by
    have:=HL.out.rows.at' (c:=a) (by rw [HL.out.llen]; exact han)
    omega
   have HA:=Lib.hid (And.intro (hbx 0 _ rfl) (And.intro (hbx 1 _ rfl) (HL.out.below hbA)))
   clear he hin hyes hno hpc hbx hbA hgn
   go_upto_region 7 with fail
   refine gen_code (fun Z => Z.cell? ⟨wr.heap.size,0,none⟩ = some (.int .i64 (a : Int))∧Z.cell? ⟨wr.heap.size,1,none⟩ = some (.int .i64 (b : Int))∧KhP W1 B4 n pc nc ps ns (pendL (qE g l i) n) us (nextL (qE g l i) n) Z) HA.out ?_
   intro Z hZ
   obtain ⟨be,hbe⟩ : ∃ be,be = wr.heap.size:=⟨_,rfl⟩
   rw [← hbe] at hZ hB4w ⊢
   obtain ⟨x0,x1,hz⟩:=hZ
   have HZ2:=Lib.hid hz
   have hbl : be < Z.heap.size:=World.block_lt_of_cell? _ _ x0
   have HFT : Hid (∀ q,Foot (.slice ns n nc) us q→q < be):=Lib.hid fun q hq => by rw [hbe]; exact (HL.out.rows.foot kIIg q hq).2
   have hho:=H1.out.2.2.2.below hz.bel
   clear HA p0 p1 hbe hz
   have hll : l.length = n:=by have:=H1.out.1.1; have:=HV.out.2; omega
   obtain ⟨u0,u1, -⟩:=own_int hho hll han
   obtain ⟨v0,v1, -⟩:=own_int hho hll hbn
   have kA:=(H1.out.1.hd (v:=a) (by have:=HV.out.2; omega)).1
   have kB:=(H1.out.1.hd (v:=b) (by have:=HV.out.2; omega)).1
   rw [kA] at u0
   rw [kB] at v0
   have hA8:=H1.out.1.lt HV.out.1 (v:=a) (by have:=HV.out.2; omega)
   have hB8:=H1.out.1.lt HV.out.1 (v:=b) (by have:=HV.out.2; omega)
   generalize hdN l (a : Int) = ya at *
   generalize hdN l (b : Int) = yb at *
   clear hho hll kA kB
   by_cases hne : ya = yb
   ·have w1 : ((ya : Int) != (yb : Int)) = false:=by simpa using (by omega : (ya : Int) = (yb : Int))
    have hx:=HYN.out.2 hne
    have HZN : Hid (∀ m,KhP W1 B4 n pc nc ps ns (pendL (qE g l (i + 1)) n) us (nextL (qE g l (i + 1)) n) (Z.drewN m)):=Lib.hid fun m => by
     rw [hx]; exact HZ2.out.below (below_drewN (Below.refl _ _) m)
    clear hne hx
    go_quiet (fail)
    go_wp2_with fail
    go_roundw
    case rel => exact ⟨i + 1,us,by omega,by go_num,HZN.out _⟩
    case measure => simp [intOf]; omega
   ·have w1 : ((ya : Int) != (yb : Int)) = true:=by simpa using (by omega : ¬ (ya : Int) = (yb : Int))
    have hx:=HYN.out.1 hne
    have HX:=Lib.hid hx
    have HZN : Hid (∀ m,KhP W1 B4 n pc nc ps ns (pendL (qE g l i) n) us (nextL (qE g l i) n) (Z.drewN m)):=Lib.hid fun m => HZ2.out.below (below_drewN (Below.refl _ _) m)
    have HBE : Hid (∀ m,be < (Z.drewN m).heap.size):=Lib.hid fun m => Nat.lt_of_lt_of_le hbl (below_drewN (Below.refl Z.heap.size Z) m).size
    clear hne hx
    go_quiet (fail)
    clear u0 u1 v0 v1 x0 x1 hbl
    go_upto_region 9 with fail
    refine gen_code (fun Y => KhP W1 B4 n pc nc ps ns (pendL (qE g l i) n) us (nextL (qE g l i) n) Y∧be < Y.heap.size) ⟨HZN.out _,HBE.out _⟩ ?_
    intro Y hY
    have hya : ya < n:=by have:=HV.out.2; omega
    have hyb : yb < n:=by have:=HV.out.2; omega
    obtain ⟨k0,k1,k2⟩:=own_int hY.1.pend hY.1.plen hya
    have hst:=hY.1.set hya (nth (pendL (qE g l i) n) ya + 1)
    have HST:=Lib.hid (And.intro hst hY.2)
    obtain ⟨z,hz⟩ : ∃ z,z = nth (pendL (qE g l i) n) ya:=⟨_,rfl⟩
    have hwz : wrap64 (z + 1) = z + 1:=by
     rw [Go.Spl.pendL_nth hya] at hz
     have h1:=cnt_le (qE g l i) [] ya
     have h2:=qE_len g l i
     unfold wrap64; omega
    rw [← hz] at k0 HST
    have HZZ:=Lib.hid hz
    clear HZN HBE hY hst hz
    go_upto_region 10 with fail
    clear k0 k1 k2 hwz
    refine gen_code (fun Y => KhP W1 B4 n pc nc ps ns ((pendL (qE g l i) n).set ya (z + 1)) us (nextL (qE g l i) n) Y∧be < Y.heap.size) ⟨HST.out.1,by rw [World.size_setCell]; exact HST.out.2⟩ ?_
    intro V hV
    have HVV:=Lib.hid hV
    clear HST
    have hul : us.length = n:=by rw [hV.1.rows.len]; exact hV.1.llen
    obtain ⟨a4,c4,he4,hm4,hidx4,hcell4, -⟩:=hV.1.rows.out.lst.out1 sRowsG
    rw [hul] at he4 hm4 hidx4 hcell4
    simp only [Value.slice.injEq] at he4
    obtain ⟨rfl, -,rfl⟩:=he4
    have ccl:=hcell4 yb hyb
    have i4:=hidx4 .i64 (yb : Int) (by omega) (by omega)
    rw [Int.toNat_natCast] at i4
    have hcn : (nth (nextL (qE g l i) n) yb).length < 17592186044416:=by
     rw [Go.Spl.nextL_nth hyb,List.length_map]
     have h1:=row_le (qE g l i) yb
     have h2:=qE_len g l i
     omega
    have hown1:=hV.1.rows.inn yb (by rw [hV.1.llen]; exact hyb)
    have hB4V : B4 ≤ V.heap.size:=by omega
    have HO1:=Lib.hid hown1
    have HC:=Lib.hid ccl
    have hsh:=hown1.shape (n:=(nth (nextL (qE g l i) n) yb).length) rfl
    have HYB:=Lib.hid hyb
    clear hidx4 hcell4 hm4 hV hown1 hsh hul
    go_wp2_with (at_builtin; refine wp_append1at (f:=Value.int .i64) sIntG rfl _ rfl _ _ rfl B4 (nth us yb) (nth (nextL (qE g l i) n) yb) rfl (HO1.out.alloc _) (ya : Int) ⟨V.heap.size,0,none⟩ rfl (cell_alloc1 _ _ _) rfl hcn (by omega) (le_alloc _ hB4V) ?_; intro v' w3 hown hgr hat; obtain ⟨s9,c9,rfl⟩:=hown.shape (n:=(nth (nextL (qE g l i) n) yb).length + 1) (by simp); have HO:=Lib.hid (HVV.out.1.push HYB.out hown hgr hat HC.out); obtain ⟨o1,o2, -⟩:=HO.out; clear hown hgr hat ccl)
    go_roundw
    case rel => exact ⟨i + 1,us.set yb (.slice s9 ((nth (nextL (qE g l i) n) yb).length + 1) c9),by omega,by go_num,by
     rw [HX.out,pendL_add (by have:=HV.out.2; omega),nextL_add HYB.out, ← HZZ.out]; exact HO.out.2.2⟩
    case measure => simp [intOf]; omega
  ·obtain rfl : i = g.es.length:=by omega
   obtain ⟨c0,c1⟩:=H1.out.2.2.1.below HL.out.bel
   clear hit hci
   go_upto_region 13 with fail
   clear c0 c1
   have hnew:=hpO_new (keep:=fun q => q < wr.heap.size) wr (fun _ h => h)
   have hb6:=((Below.refl wr.heap.size wr).alloc (Nat.le_refl _) (.cells #[] 3)).alloc (by rw [World.size_alloc]; omega) (.cells #[.slice (some ⟨wr.heap.size,0,none⟩) 0 0] 143)
   refine gen_code (fun Y => HpO (fun q => q < wr.heap.size) (wr.heap.size + 1) wr.heap.size [] Y∧KhP W1 B4 n pc nc ps ns (pendL (qE g l g.es.length) n) us (nextL (qE g l g.es.length) n) Y) ⟨hnew,HL.out.below hb6⟩ ?_
   intro V hV
   have HV6:=Lib.hid hV
   have HFT : Hid (∀ q,Foot (.slice ns n nc) us q→q < wr.heap.size):=Lib.hid fun q hq => (HL.out.rows.foot kIIg q hq).2
   obtain ⟨B6,hB6⟩ : ∃ B6,B6 = wr.heap.size:=⟨_,rfl⟩
   rw [← hB6] at HV6 HFT ⊢
   obtain ⟨c0,c1⟩:=H1.out.2.2.1.below HV6.out.2.bel
   have HB46 : Hid ((∀ q,(Value.slice ps n pc).ownBlock = some q→q < B6)∧W1.heap.size ≤ B6):=Lib.hid ⟨fun q hq => by rw [hB6]; exact (HL.out.pend.lt q hq).2,by rw [hB6]; exact HL.out.bel.size⟩
   clear hnew hb6 hV hB6
   go_wp2_with fail
   clear c0 c1
   go_loopw [70] (fun x Z => ∃ (v : Nat) (R : List Nat),v ≤ n∧x = .int .i64 (v : Int)∧Hid (R.Perm (rdyK g l v)∧HpO (fun q => q < B6) (B6 + 1) B6 R Z∧KhP W1 B4 n pc nc ps ns (pendL (qE g l g.es.length) n) us (nextL (qE g l g.es.length) n) Z)) (fun x _ => n - (intOf x).toNat)
   case atStart => exact ⟨0, [],by omega,rfl,.refl _,HV6.out⟩
   case round =>
    obtain ⟨v,R,hv,rfl,hh⟩:=hrel
    have HL2:=Lib.hid hh.out
    clear hh
    by_cases hvn : v < n
    ·have hvl : (v : Int) < (n : Int):=by omega
     have hho:=H1.out.2.2.2.below HL2.out.2.2.bel
     have hll : l.length = n:=by have:=H1.out.1.1; have:=HV.out.2; omega
     obtain ⟨u0,u1, -⟩:=own_int hho hll hvn
     obtain ⟨k0,k1, -⟩:=own_int HL2.out.2.2.pend HL2.out.2.2.plen hvn
     rw [(H1.out.1.hd (v:=v) (by have:=HV.out.2; omega)).1] at u0
     rw [Go.Spl.pendL_nth hvn] at k0
     clear hho hll
     have hyes:=rdy_yes (g:=g) (l:=l) (k:=v)
     have hno:=rdy_no (g:=g) (l:=l) (k:=v)
     generalize hdN l (v : Int) = y at *
     generalize Go.Kah.cnt (qE g l g.es.length) [] v = z at *
     have HYN:=Lib.hid (And.intro hyes hno)
     clear hyes hno
     by_cases hy : y = v
     ·by_cases hz : z = 0
      ·subst hz
       have w1 : ((y : Int) == (v : Int)) = true:=by simpa using (by omega : (y : Int) = (v : Int))
       have HX:=Lib.hid (HYN.out.1 hy rfl)
       clear hy
       go_upto_region 17 with fail
       clear u0 u1 k0 k1
       refine gen_code (fun Y => HpO (fun q => q < B6) (B6 + 1) B6 R Y∧KhP W1 B4 n pc nc ps ns (pendL (qE g l g.es.length) n) us (nextL (qE g l g.es.length) n) Y) HL2.out.2 ?_
       intro Y hY
       have HY:=Lib.hid hY
       have hpu:=hPush_any (fun q => q < B6) (B6 + 1) B6 R v Y hY.1 (by have h1:=HL2.out.1.length_eq; have h2 : (rdyK g l v).length ≤ v:=Nat.le_trans (List.length_filter_le _ _) (by simp); omega)
       unfold hpV at hpu
       clear hY
       go_wp2_with fail
       refine hpu.mono ?_
       rintro e W9 ⟨rfl,hf,R',hO,hp⟩
       have HR9 : Hid (R'.Perm (rdyK g l (v + 1))∧HpO (fun q => q < B6) (B6 + 1) B6 R' W9∧KhP W1 B4 n pc nc ps ns (pendL (qE g l g.es.length) n) us (nextL (qE g l g.es.length) n) W9):=Lib.hid ⟨by rw [HX.out]; exact hp.trans (HL2.out.1.append_right [v]),hO,HY.out.2.hpf hf (fun q hq => by have:=HB46.out.2; show q < B6; omega) (fun q hq => HB46.out.1 q hq) (fun q hq => HFT.out q hq)⟩
       clear hf hO hp hpu
       go_wp2_with fail
       go_roundw
       case rel => exact ⟨v + 1,R',by omega,by go_num,HR9.out⟩
       case measure => simp [intOf]; omega
      ·have w1 : ((y : Int) == (v : Int)) = true:=by simpa using (by omega : (y : Int) = (v : Int))
       have w2 : ((z : Int) == 0) = false:=by simpa using hz
       have HX:=Lib.hid (HYN.out.2 (fun h => hz h.2))
       clear hy hz
       go_wp2_with fail
       go_roundw
       case rel => exact ⟨v + 1,R,by omega,by go_num,by rw [HX.out]; exact HL2.out⟩
       case measure => simp [intOf]; omega
     ·have w1 : ((y : Int) == (v : Int)) = false:=by simpa using (by omega : ¬ (y : Int) = (v : Int))
      have HX:=Lib.hid (HYN.out.2 (fun h => hy h.1))
      clear hy
      go_wp2_with fail
      go_roundw
      case rel => exact ⟨v + 1,R,by omega,by go_num,by rw [HX.out]; exact HL2.out⟩
      case measure => simp [intOf]; omega
    ·obtain rfl : n = v:=by omega
     obtain ⟨c0,c1⟩:=H1.out.2.2.1.below HL2.out.2.2.bel
     clear hvn
     go_wp2_with (at_make; refine wp_make (f:=Value.int .i64) 0 sIntG rfl _ rfl _ _ rfl .i64 .i64 _ _ n rfl rfl rfl rfl (by omega) (by unfold maxLen; omega) ?_)
     intro xs xc W8 hrow hb8
     have h8:=LpM.start HL2.out.2.1 HL2.out.2.2 hrow hb8 (List.length_replicate ..) HB46.out.2 HB46.out.1 HFT.out
     have hgn:=HV.out.2
     have hs8:=rdy_start (g:=g) (l:=l) (R:=R) (by rw [hgn,Int.toNat_natCast]; exact HL2.out.1)
     rw [hgn,Int.toNat_natCast] at hs8
     have H8:=Lib.hid (And.intro hs8 h8)
     obtain ⟨Bx,hBx⟩ : ∃ Bx,Bx = wr.heap.size:=⟨_,rfl⟩
     rw [← hBx] at H8
     clear hrow hb8 h8 hs8 c0 c1 hBx hgn
     go_wp2_with fail
     go_loopw [13] (fun x Z => ∃ (L R : List Nat) (P X : List Int),x = .int .i64 (L.length : Int)∧Hid (Go.Kah.HB (qE g l g.es.length) n (fun v => hdN l (v : Int) = v) L R P∧LpM W1 B4 B6 Bx n pc nc xc ps ns xs us (nextL (qE g l g.es.length) n) R P X Z∧∀ j,j < L.length→nth X (nth L j) = (j : Int))) (fun x _ => n - (intOf x).toNat)
     case atStart => exact ⟨[],R,_,_,rfl,H8.out.1,H8.out.2,fun j hj => by simp at hj⟩
     case round =>
      obtain ⟨L,R,P,X,rfl,hh⟩:=hrel
      have HL3:=Lib.hid hh.out
      clear hh
      have hLR : L.length + R.length ≤ n:=by
       have h9:=Go.Kah.nodup_le (L ++ R) (List.range n) HL3.out.1.nd (fun x hx => by
        rw [List.mem_append] at hx; rw [List.mem_range]; exact ((HL3.out.1.mem x).1 hx).2.1)
       rw [List.length_append,List.length_range] at h9; exact h9
      have HLR:=Lib.hid hLR
      obtain ⟨⟨s,m,c,hvv⟩,hheap⟩:=HL3.out.2.1.hp
      have hml:=hvv.len
      have q0:=hvv.cell
      have q1:=hvv.frz
      have hle:=mLen_any s m c wr
      have HHV:=Lib.hid (And.intro hheap hml)
      clear hvv hheap hml hLR
      by_cases hm : 0 < m
      ·have w1 : (0 : Int) < (m : Int):=by omega
       go_wp2_with fail
       refine hle.mono ?_
       rintro e W' ⟨rfl,rfl⟩
       have hpo:=hPop_any (kpX B6 (.slice xs n xc)) (B6 + 1) B6 R W' HL3.out.2.1.hp (by have:=HHV.out.2; omega) (by have:=HLR.out; omega)
       unfold hpV at hpo
       clear hle
       go_wp2_with fail
       refine hpo.mono ?_
       rintro e W9 ⟨rfl,hf,R',hO,hpm⟩
       have HP9:=Lib.hid (And.intro (HL3.out.2.1.op hf hO) hpm)
       clear hf hO hpm hpo q0 q1
       obtain ⟨u,hu⟩ : ∃ u,u = nth R 0:=⟨_,rfl⟩
       rw [← hu] at HP9 ⊢
       have hpop:=(HL3.out.1.perm HP9.out.2).pop (fun x hx => by
        rw [hu]
        obtain ⟨i,hi,he⟩:=mem_nth (HP9.out.2.mem_iff.1 (List.mem_cons_of_mem _ hx))
        rw [← he]; exact HHV.out.1.root i hi)
       have hun : u < n:=((HL3.out.1.mem u).1 (.inr (HP9.out.2.mem_iff.1 (by simp)))).2.1
       have hul : ¬ u ∈ L:=fun hm => (List.nodup_append.1 hpop.nd).2.2 u hm u (by simp) rfl
       obtain ⟨x0,x1,x2⟩:=own_int HP9.out.1.ix HP9.out.1.xl hun
       have hsX:=HP9.out.1.setX hun (L.length : Int)
       have hxx : ∀ j,j < (L ++ [u]).length→nth (X.set u (L.length : Int)) (nth (L ++ [u]) j) = (j : Int):=fun j hj => by
        rw [List.length_append] at hj
        simp only [List.length_cons,List.length_nil] at hj
        rw [nth_append]
        by_cases hjl : j < L.length
        ·rw [if_pos hjl,nth_set,if_neg (fun e : u = nth L j∧_ => hul (by rw [e.1]; exact nth_mem _ _ hjl))]
         exact HL3.out.2.2 j hjl
        ·rw [if_neg hjl,show j - L.length = 0 by omega,show nth [u] 0 = u from rfl,nth_set,if_pos ⟨rfl,by rw [HP9.out.1.xl]; exact hun⟩,show j = L.length by omega]
       have HQ:=Lib.hid (And.intro hpop (And.intro hsX hxx))
       have ta : ∀ (xt : Nat) (y : Int) (Y : World),(Instr.typeAssert (.iface 3 (.int .i64 y)) xt 3 true).run Tryz.prog Y = .ok (.tuple #[.int .i64 y,.bool true]) Y:=fun _ _ _ => by kernel_rfl
       clear hpop hsX hxx hul hu
       go_upto_region 24 with fail
       clear x0 x1 x2 ta
       refine gen_code (fun Y => LpM W1 B4 B6 Bx n pc nc xc ps ns xs us (nextL (qE g l g.es.length) n) R' P (X.set u (L.length : Int)) Y) HQ.out.2.1 ?_
       intro Y hY
       have HY:=Lib.hid hY
       have hwc : wrap64 ((L.length : Int) + 1) = (L.length : Int) + 1:=by have:=HLR.out; unfold wrap64; omega
       have hul : us.length = n:=by rw [hY.kh.rows.len]; exact hY.kh.llen
       obtain ⟨a4,c4,he4,hm4,hidx4,hcell4, -⟩:=hY.kh.rows.out.lst.out1 sRowsG
       rw [hul] at he4 hm4 hidx4 hcell4
       simp only [Value.slice.injEq] at he4
       obtain ⟨rfl, -,rfl⟩:=he4
       have ccl:=hcell4 u hun
       have i4:=hidx4 .i64 (u : Int) (by omega) (by omega)
       rw [Int.toNat_natCast] at i4
       obtain ⟨m4,hm4e⟩ : ∃ m4,m4 = (Go.Kah.row (qE g l g.es.length) u).length:=⟨_,rfl⟩
       have hrl : (nth (nextL (qE g l g.es.length) n) u).length = m4:=by rw [Go.Spl.nextL_nth hun,List.length_map,hm4e]
       obtain ⟨s9,c9,hsh⟩:=(hY.kh.rows.inn u (by rw [hY.kh.llen]; exact hun)).shape (n:=m4) hrl
       rw [hsh] at ccl
       have hm4b : m4 ≤ g.es.length:=by
        have h1:=row_le (qE g l g.es.length) u
        have h2:=qE_len g l g.es.length
        omega
       have HR:=Lib.hid (And.intro hun (And.intro hrl (And.intro hsh hm4e)))
       clear hidx4 hcell4 hm4 hY hul hsh hrl hm4e hun
       go_wp2_with fail
       clear ccl i4 hwc
       go_loopw [118] (fun x Z => ∃ (k : Nat) (R : List Nat) (P : List Int),k ≤ m4∧x = .int .i64 (k : Int)∧Hid (Go.Kah.HM (qE g l g.es.length) n (fun v => hdN l (v : Int) = v) L u k R P∧LpM W1 B4 B6 Bx n pc nc xc ps ns xs us (nextL (qE g l g.es.length) n) R P (X.set u (L.length : Int)) Z)) (fun x _ => m4 - (intOf x).toNat)
       case atStart => exact ⟨0,R',P,by omega,rfl,HQ.out.1,HY.out⟩
       case round =>
        obtain ⟨k,R3,P3,hk,rfl,hh⟩:=hrel
        have HL4:=Lib.hid hh.out
        clear hh
        by_cases hkm : k < m4
        ·have hkl : (k : Int) < (m4 : Int):=by omega
         have hrn:=HL4.out.2.kh.rows.inn u (by rw [HL4.out.2.kh.llen]; exact HR.out.1)
         rw [HR.out.2.2.1] at hrn
         obtain ⟨r0,r1, -⟩:=own_int hrn HR.out.2.1 hkm
         obtain ⟨a,ha⟩ : ∃ a,nth (Go.Kah.row (qE g l g.es.length) u) k = a:=⟨_,rfl⟩
         have hkr : k < (Go.Kah.row (qE g l g.es.length) u).length:=by rw [← HR.out.2.2.2]; exact hkm
         have hrk : nth (nth (nextL (qE g l g.es.length) n) u) k = (a : Int):=by
          rw [Go.Spl.nextL_nth HR.out.1,nth_eq _ _ (by rw [List.length_map]; exact hkr),List.getElem_map, ← ha,nth_eq _ _ hkr]
         rw [hrk] at r0
         have hin:=qE_inn H1.out.1 HV.out.1 g.es.length u a (Go.Kah.mem_row.1 (by rw [← ha]; exact nth_mem _ _ hkr))
         have han : a < n:=by have:=HV.out.2; omega
         obtain ⟨k0,k1,k2⟩:=own_int HL4.out.2.kh.pend HL4.out.2.kh.plen han
         have hnx:=HL4.out.1.next hkr ha han hin.2.1
         have hpos:=HL4.out.1.pos hkr (by rw [ha]; exact han)
         rw [ha] at hpos
         have hpl:=HL4.out.1.p a han
         have hcl:=cnt_le (qE g l g.es.length) L a
         have hql:=qE_len g l g.es.length
         have hgl:=HV.out.1.len
         obtain ⟨z,hz⟩ : ∃ z,z = nth P3 a:=⟨_,rfl⟩
         have hst:=HL4.out.2.setP han (nth P3 a - 1)
         rw [← hz] at k0 hnx hpos hpl hst
         have hwz : wrap64 (z - 1) = z - 1:=by unfold wrap64; omega
         have HS:=Lib.hid (And.intro hst hnx)
         have HAN:=Lib.hid (And.intro han (And.intro hin.2.1 HL4.out.1.nd))
         clear hrn hkr hrk hin hnx hpos hpl hcl hql hst hz ha han
         go_upto_region 29 with fail
         clear r0 r1 k0 k1 k2 hwz
         refine gen_code (fun Y => LpM W1 B4 B6 Bx n pc nc xc ps ns xs us (nextL (qE g l g.es.length) n) R3 (P3.set a (z - 1)) (X.set u (L.length : Int)) Y) HS.out.1 ?_
         intro Y hY
         obtain ⟨k0,k1, -⟩:=own_int hY.kh.pend hY.kh.plen HAN.out.1
         have hpl : P3.length = n:=HL4.out.2.kh.plen
         rw [nth_set,if_pos ⟨rfl,by rw [hpl]; exact HAN.out.1⟩] at k0
         have HY4:=Lib.hid hY
         clear hpl hY
         obtain ⟨y,hy⟩ : ∃ y,y = z - 1:=⟨_,rfl⟩
         rw [← hy] at HS HY4 k0
         clear hy
         by_cases hy0 : y = 0
         ·subst hy0
          have hn3:=HS.out.2.2 rfl
          have h2:=Go.Kah.nodup_le (L ++ u :: a :: R3) (List.range n) hn3.nd (fun x hx => by
           rw [List.mem_append,List.mem_cons] at hx; rw [List.mem_range]; exact ((hn3.mem x).1 hx).2.1)
          rw [List.length_append,List.length_cons,List.length_cons,List.length_range] at h2
          have hpu:=hPush_any (kpX B6 (.slice xs n xc)) (B6 + 1) B6 R3 a Y HY4.out.hp (by omega)
          unfold hpV at hpu
          have HN3:=Lib.hid hn3
          clear hn3 h2
          go_wp2_with fail
          refine hpu.mono ?_
          rintro e W9 ⟨rfl,hf,R5,hO,hpm⟩
          have HR9:=Lib.hid (And.intro (HN3.out.perm (hpm.trans (List.perm_append_singleton a R3))) (HY4.out.op hf hO))
          clear hf hO hpm hpu k0 k1
          go_wp2_with fail
          go_roundw
          case rel => exact ⟨k + 1,R5,P3.set a 0,by omega,by go_num,HR9.out⟩
          case measure => simp [intOf]; omega
         ·have w2 : ((y : Int) == 0) = false:=by simpa using hy0
          have HN3:=Lib.hid (HS.out.2.1 hy0)
          clear hy0
          go_wp2_with fail
          go_roundw
          case rel => exact ⟨k + 1,R3,P3.set a y,by omega,by go_num,HN3.out,HY4.out⟩
          case measure => simp [intOf]; omega
        ·obtain rfl : m4 = k:=by omega
         clear hkm
         go_wp2_with fail
         go_roundw
         case rel => exact ⟨L ++ [u],R3,P3,X.set u (L.length : Int),by simp,by have h9:=HL4.out.1; rw [HR.out.2.2.2] at h9; exact h9.done,HL4.out.2,HQ.out.2.2⟩
         case measure => have:=HLR.out; have:=HHV.out.2; simp [intOf]; omega
      ·obtain rfl : m = 0:=by omega
       have hR0 : R = []:=List.eq_nil_of_length_eq_zero HHV.out.2
       subst hR0
       have hgn:=HV.out.2
       have hwh : OrdIs g l L:=by
        unfold OrdIs
        rw [hgn,Int.toNat_natCast]
        exact HL3.out.1.whole (fun a b hm => by
         have h9:=(qE_inn H1.out.1 HV.out.1 _ a b hm).1
         exact ⟨h9.1,by omega⟩) (qE_acyclic H1.out.1 HV.out.1 _)
       have HWH:=Lib.hid hwh
       clear hwh hm hgn
       obtain ⟨c0,c1⟩:=H1.out.2.2.1.below HL3.out.2.1.kh.bel
       go_wp2_with fail
       refine hle.mono ?_
       rintro e W9 ⟨rfl,rfl⟩
       clear q0 q1 hle
       go_upto_region 32 with fail
       obtain ⟨cnt,hcnt⟩ : ∃ cnt,cnt = L.length:=⟨_,rfl⟩
       have hcn : cnt ≤ n:=by have:=HLR.out; omega
       rw [← hcnt]
       have HCN:=Lib.hid hcnt
       clear hcnt
       refine Go.Dfl.N.wp_region_makesR [0,2,3] (mksP n cnt) 5 144 [1,4] (fun b => .agg #[.slice (some ⟨b 1,0,none⟩) cnt cnt,.slice (some ⟨b 4,0,none⟩) n n]) [7] (fun w' => w'.cell? ⟨W.heap.size,0,none⟩ = some (.int .i64 (n : Int))) W9.heap.size (Nat.le_refl _) (by kernel_rfl) (by simp [mksP,Go.Dfl.N.mkS,Go.Dfl.N.mkA]) (by simp [mksP,Go.Dfl.N.mkS,Go.Dfl.N.mkA]) (by simp) (by simp [mksP,Go.Dfl.N.mkS,Go.Dfl.N.mkA]) (by simp [mksP,Go.Dfl.N.mkS,Go.Dfl.N.mkA]) (fun b b' h => by rw [h 1 (by simp),h 4 (by simp)]) (by kernel_rfl) (by kernel_rfl) (fun w w' hg hh => hg.cell hh (by simp)) c0 ?_
       repeat (
        refine wpHeads_cons (v:=?_) rfl (Or.inl ⟨by rfl, ?_⟩) ?_
        rotate_left
        ·(intro W hW; go_simp; try with_reducible rfl)
        simp only [Act.put,List.setIfInBounds_toArray])
       refine wpHeads_nil ?_
       simp only [List.getElem_toArray,List.getElem_cons_zero,List.getElem_cons_succ,List.setIfInBounds_toArray,List.set_cons_zero,List.set_cons_succ]
       refine ⟨?_,⟨⟨_,rfl,rfl,fun b a' hb hsz => ?_⟩, ?_⟩, ?_⟩
       rotate_left
       ·have h1:=hb _ (by simp [mksP] : Go.Dfl.N.mkS 1 140 139 32 cnt (.slice none 0 0) 1 ∈ mksP n cnt) (by simp [Go.Dfl.N.mkS])
        have h2:=hb _ (by simp [mksP] : Go.Dfl.N.mkS 4 143 142 3 n (.int .i64 0) 1 ∈ mksP n cnt) (by simp [Go.Dfl.N.mkS])
        simp only [Go.Dfl.N.mkS] at h1 h2
        refine Or.inl ⟨by simp [Region.wanted],fun w _ => ?_⟩
        simp only [List.getElem_toArray,List.getElem_cons_succ,List.getElem_cons_zero,execOp,List.map_toArray,List.map_cons,List.map_nil,h1,h2]
        go_simp
       ·intro m hm
        simp only [mksP,List.mem_cons,List.not_mem_nil,or_false] at hm
        rcases hm with rfl | rfl | rfl <;> simp [Go.Dfl.N.mkS,Go.Dfl.N.mkA]
       rotate_left
       ·intro m hm
        simp only [mksP,List.mem_cons,List.not_mem_nil,or_false] at hm
        rcases hm with rfl | rfl | rfl
        ·exact Go.Dfl.N.mkS_at sRowsG ⟨_,rfl,rfl,rfl,rfl⟩ (by omega) (by unfold maxLen; omega) rfl
        ·exact Go.Dfl.N.mkS_at sIntG ⟨_,rfl,rfl,rfl,rfl⟩ (by omega) (by unfold maxLen; omega) rfl
        ·exact Go.Dfl.N.mkA_at (z:=.agg #[.slice none 0 0,.slice none 0 0]) (by kernel_rfl) ⟨_,rfl,rfl,rfl,rfl⟩
       intro bq W2 hE hS2
       simp only [mksP,List.foldl_cons,List.foldl_nil,Go.Dfl.N.mkS,Go.Dfl.N.mkA,List.setIfInBounds_toArray,List.set_cons_zero,List.set_cons_succ]
       have hM:=LoW.start (W0:=W9.drew) hE
       obtain ⟨e1, -, -⟩:=hE.is (Go.Dfl.N.mkA 6 18 2 123 #[.slice none 0 0,.slice none 0 0]) (by simp [mksP])
       simp only [Go.Dfl.N.mkA] at e1
       have HM:=Lib.hid hM
       clear hM hE c0 c1
       obtain ⟨bt,hbt⟩ : ∃ bt,bt = bq 6:=⟨_,rfl⟩
       obtain ⟨sl,hsl⟩ : ∃ sl : Option Addr,sl = some ⟨bq 1,0,none⟩:=⟨_,rfl⟩
       obtain ⟨so,hso⟩ : ∃ so : Option Addr,so = some ⟨bq 4,0,none⟩:=⟨_,rfl⟩
       obtain ⟨B1,hB1⟩ : ∃ B1,B1 = W2.heap.size:=⟨_,rfl⟩
       have HM1:=HM.out
       rw [← hB1, ← hbt, ← hsl, ← hso] at HM1
       rw [← hbt] at e1
       rw [← hsl, ← hso, ← hbt]
       clear HM hbt hB1 hsl hso
       have w0 : W2.cell? ⟨bt,0,none⟩ = some (.slice none 0 0):=by simp [World.cell?,e1]
       have w1 : W2.cell? ⟨bt,1,none⟩ = some (.slice none 0 0):=by simp [World.cell?,e1]
       have w3 : W2.frozen? ⟨bt,0,none⟩ = false:=by simp [World.frozen?,e1]
       have w4 : W2.frozen? ⟨bt,1,none⟩ = false:=by simp [World.frozen?,e1]
       have hnb : W.heap.size ≠ bt:=by
        intro e9
        rw [World.cell?,e9,e1] at hS2
        simp at hS2
       clear e1
       refine wpTailsH_cons rfl ?_
       go_wp2_with fail
       refine tail_mk (by
        have h8 : ∀ (Z : World) (j : Nat) (v : Value),Z.cell? ⟨W.heap.size,0,none⟩ = some (.int .i64 (n : Int))→(Z.setCell ⟨bt,j,none⟩ v).cell? ⟨W.heap.size,0,none⟩ = some (.int .i64 (n : Int)):=fun Z j v hZ => by
         rw [World.cell?_setCell_other _ _ _ _ (by simp only [ne_eq,Addr.mk.injEq,not_and]; intro h; exact absurd h.symm hnb)]; exact hZ
        exact h8 _ _ _ (h8 _ _ _ hS2)) ?_
       refine wpTailsH_nil ?_
       refine K_gen (fun Z => LoW W9.drew n cnt bt B1 sl so (List.replicate n 0) (List.replicate cnt (.slice none 0 0)) (List.replicate cnt []) Z) HM1 ?_
       clear HM1 hS2 w0 w1 w3 w4 hnb
       intro W3 h3
       have hb9 : ∀ Z,Below W9.drew.heap.size W9.drew Z→Below W9.heap.size W9 Z:=fun Z hZ => ((Below.refl _ _).drew).trans hZ
       have hcz : (L.map fun h => compK l h 0) = List.replicate cnt []:=by
        rw [HCN.out]; exact List.map_const' ..
       rw [← hcz] at h3
       have H3:=Lib.hid h3
       have HB9:=Lib.hid hb9
       clear h3 hcz hb9
       obtain ⟨c0,c1⟩:=(H1.out.2.2.1.below HL3.out.2.1.kh.bel).below (HB9.out _ H3.out.bel)
       go_wp2_with fail
       clear c0 c1
       go_loopw [147] (fun x Z => ∃ (v : Nat) (ol : List Int) (vs : List Value),v ≤ n∧x = .int .i64 (v : Int)∧Hid (LoW W9.drew n cnt bt B1 sl so ol vs (L.map fun h => compK l h v) Z∧∀ w,w < v→nth ol w = nth X (hdN l (w : Int)))) (fun x _ => n - (intOf x).toNat)
       case atStart => exact ⟨0,_,_,by omega,rfl,H3.out,fun w hw => by omega⟩
       case round =>
        obtain ⟨v,ol,vs,hv,rfl,hh⟩:=hrel
        have HL5:=Lib.hid hh.out
        clear hh
        by_cases hvn : v < n
        ·have hvl : (v : Int) < (n : Int):=by omega
         have hgn:=HV.out.2
         have hbz:=HB9.out _ HL5.out.1.bel
         obtain ⟨u0,u1, -⟩:=own_int ((H1.out.2.2.2.below HL3.out.2.1.kh.bel).below hbz) (by have:=H1.out.1.1; omega : l.length = n) hvn
         rw [(H1.out.1.hd (v:=v) (by omega)).1] at u0
         have hyn:=H1.out.1.lt HV.out.1 (v:=v) (by omega)
         have hself:=H1.out.1.self HV.out.1 (v:=v) (by omega)
         obtain ⟨y,hy⟩ : ∃ y,y = hdN l (v : Int):=⟨_,rfl⟩
         rw [← hy] at u0 hyn hself
         obtain ⟨j,hj,hje⟩:=mem_nth ((HWH.out.mem y).2 ⟨hself,hyn⟩)
         have hyn' : y < n:=by omega
         obtain ⟨x0,x1, -⟩:=own_int (HL3.out.2.1.ix.below hbz) HL3.out.2.1.xl hyn'
         have hxj:=HL3.out.2.2 j hj
         rw [hje] at hxj
         rw [hxj] at x0
         obtain ⟨o0,o1,o2⟩:=HL5.out.1.rdO hvn
         have d1:=HL5.out.1.c1
         have hst:=HL5.out.1.setO v (j : Int)
         have hj' : j < cnt:=by rw [HCN.out]; exact hj
         have hol : ∀ w,w < v + 1→nth (ol.set v (j : Int)) w = nth X (hdN l (w : Int)):=fun w hw => by
          rw [nth_set]
          by_cases e : v = w
          ·subst e
           rw [if_pos ⟨rfl,by rw [HL5.out.1.lo]; exact hvn⟩, ← hy,hxj]
          ·rw [if_neg (fun h9 : v = w∧_ => e h9.1)]
           exact HL5.out.2 w (by omega)
         have HS5:=Lib.hid (And.intro hst (And.intro hol (And.intro hj (And.intro hje hy))))
         clear hgn hbz hyn hself hje hxj hst hol hj hy
         go_upto_region 38 with fail
         clear u0 u1 x0 x1 o0 o1 o2 d1
         refine gen_code (fun Y => LoW W9.drew n cnt bt B1 sl so (ol.set v (j : Int)) vs (L.map fun h => compK l h v) Y) HS5.out.1 ?_
         intro V hV
         have hbd : Below V.heap.size V V.drew:=(Below.refl _ _).drew
         have hv1:=hV.below hbd
         have d2:=hv1.c0
         obtain ⟨ccl,i4,hfz⟩:=hv1.rdP hj'
         obtain ⟨n1,⟨n2,n3⟩,⟨n4,n5⟩,n6,n7,n8⟩:=hv1.ne
         have hvl2:=hv1.lv
         have hna : ∀ q,(nth vs j).ownBlock = some q→q ≠ blk sl∧q ≠ bt:=fun q hq => by
          have h9:=hv1.rows j hj' q hq
          exact ⟨by omega,by omega⟩
         have hlen : (nth (L.map fun h => compK l h v) j).length ≤ v:=by
          rw [comps_nth HS5.out.2.2.1]; exact compK_le _ _ _
         have HS:=Lib.hid (And.intro d2 ccl)
         have HH:=Lib.hid (And.intro hv1 (And.intro hna (And.intro hlen hvl2)))
         clear hna hlen ccl hv1 d2 n1 n2 n3 n4 n5 n6 n7 n8 hV hbd hvl2
         refine wp_region_mix [0,1,2,3,4,5,6,7,8] [9,10,11,12] (fun w' => w'.cell? ⟨bt,0,none⟩ = some (.slice sl cnt cnt)∧w'.cell? ⟨blk sl,ofs sl + j,none⟩ = some (nth vs j)) (by kernel_rfl) (by kernel_rfl) (by kernel_rfl) HS.out ?_
         repeat (
          refine wpHeads_cons (v:=?_) rfl (Or.inl ⟨by rfl, ?_⟩) ?_
          rotate_left
          ·(intro W hW; obtain ⟨q1,q2⟩:=hW; go_simp; try with_reducible rfl)
          simp only [Act.put,List.setIfInBounds_toArray,List.getElem_toArray,List.getElem_cons_zero,List.getElem_cons_succ,List.set_cons_succ,List.set_cons_zero])
         refine wpHeads_nil ?_
         generalize V.drew = Z at *
         refine wpTails_cons rfl ?_
         go_wp2_with fail
         have gA:=grownBy_alloc Z (.cells #[.int .i64 (v : Int)] 3)
         have HS2:=Lib.hid (HS.out.imp (fun h => gA.cell h (by simp)) fun h => gA.cell h (by simp))
         have HA:=Lib.hid (And.intro (HH.out.1.grown gA (by simp)) (cell_alloc1 Z (.int .i64 (v : Int)) 3))
         clear gA
         refine tail_mk HS2.out ?_
         refine wpTails_cons rfl ?_
         refine wp_append1at (f:=Value.int .i64) sIntG rfl _ rfl _ _ rfl W9.drew.heap.size (nth vs j) (nth (L.map fun h => compK l h v) j) rfl (HA.out.1.p.inn j (by rw [HA.out.1.lp]; exact hj')) (v : Int) ⟨Z.heap.size,0,none⟩ rfl HA.out.2 rfl (by have:=HH.out.2.2.1; omega) (by omega) (HA.out.1.bel.size) ?_
         intro v31 w31 o31 g31 l31
         obtain ⟨s31,c31,rfl⟩:=o31.shape (n:=(nth (L.map fun h => compK l h v) j).length + 1) (by simp)
         have hS3:=HS2.out.imp (fun h => g31.cell h (fun e => (HH.out.2.1 _ e.symm).2 rfl)) fun h => g31.cell h (fun e => (HH.out.2.1 _ e.symm).1 rfl)
         have HS3:=Lib.hid hS3
         clear hS3
         refine tail_mk HS3.out ?_
         refine wpTails_cons rfl ?_
         go_wp2_with fail
         refine tail_mk HS3.out ?_
         refine wpTails_one rfl ?_
         have hf31:=(HA.out.1.p.outAt (by rw [HA.out.1.lp]; exact hj') g31).frozen (by rw [HH.out.2.2.2]; omega) (ofs sl + j)
         have hc31:=HS3.out.2
         have hput:=HA.out.1.put hj' g31 o31 (fun q hq => by
          rcases l31 with e | e
          ·left; rw [← e,hq]
          ·right; rw [e] at hq; have:=Option.some.inj hq; omega)
         rw [comps_step HWH.out.nd HS5.out.2.2.1 (by rw [HS5.out.2.2.2.1,HS5.out.2.2.2.2])] at hput
         have HQ:=Lib.hid hput
         clear o31 g31 l31 hput
         go_wp2_with fail
         refine thenQ_mk ?_
         go_wp2_with fail
         go_roundw
         case rel => exact ⟨v + 1,ol.set v (j : Int),vs.set j (.slice s31 ((nth (L.map fun h => compK l h v) j).length + 1) c31),by omega,by go_num,HQ.out,HS5.out.2.1⟩
         case measure => simp [intOf]; omega
        ·obtain rfl : n = v:=by omega
         clear hvn
         have hbz:=HL3.out.2.1.kh.bel.trans ((HB9.out _ HL5.out.1.bel).mono HL3.out.2.1.kh.bel.size)
         have hrb:=(hbz.block _ HRB.out.2).trans HRB.out.1
         have w0 : wr.cell? ⟨W.heap.size + 1,0,none⟩ = some (.slice none 0 0):=by simp [World.cell?,hrb]
         have w1 : wr.cell? ⟨W.heap.size + 1,1,none⟩ = some (.slice none 0 0):=by simp [World.cell?,hrb]
         have w2 : wr.frozen? ⟨W.heap.size + 1,0,none⟩ = false:=by simp [World.frozen?,hrb]
         have w3 : wr.frozen? ⟨W.heap.size + 1,1,none⟩ = false:=by simp [World.frozen?,hrb]
         have d0:=HL5.out.1.c0
         have d1:=HL5.out.1.c1
         have HBZ:=Lib.hid hbz
         clear hbz hrb
         go_wp2_with fail
         refine bodyPost_ret (v:=.agg #[.slice sl cnt cnt,.slice so n n]) (by rw [results_cell1 rfl]; go_simp; try rfl) rfl ?_
         have gf:=grownBy_trans (grownBy_setCell wr ⟨W.heap.size + 1,0,none⟩ (.slice sl cnt cnt)) (grownBy_setCell _ ⟨W.heap.size + 1,1,none⟩ (.slice so n n))
         dsimp only at gf
         have f3:=HL5.out.1
         have hnn : g.n.toNat = n:=by have:=HV.out.2; omega
         have hsz : W.heap.size + 1 < W9.drew.heap.size:=by
          have h1:=HRB.out.2
          have h2:=HL3.out.2.1.kh.bel.size
          show W.heap.size + 1 < W9.heap.size
          omega
         have ho1:=f3.o.grown gf (.inr (by rw [f3.bo]; intro e; have h9:=(f3.o.lt _ f3.bo).1; have:=Option.some.inj e; omega))
         have hp1:=f3.p.grown kIIg gf (fun q e hf => by have h9:=(f3.p.foot kIIg q hf).1; have:=Option.some.inj e; omega)
         have hbW:=H1.out.2.1.trans (HBZ.out.mono H1.out.2.1.size)
         refine ⟨L.map fun h => compK l h n,ol,_,vs,_,rfl,⟨⟨l,L,H1.out.1,HWH.out,by rw [hnn],by rw [hnn]; exact f3.lo,fun v hv => ?_⟩⟩,OwnN.mono hp1 (by omega),ho1.mono (by omega),hbW.grown gf hbW.size (fun q e => by have:=Option.some.inj e; omega)⟩
         have hyn:=H1.out.1.lt HV.out.1 hv
         have hself:=H1.out.1.self HV.out.1 hv
         obtain ⟨j,hj,hje⟩:=mem_nth ((HWH.out.mem _).2 ⟨hself,hyn⟩)
         exact ⟨j,by rw [HL5.out.2 v (by omega), ← hje]; exact HL3.out.2.2 j hj,hj,hje⟩
end Go.Proofs.YtgblfjccccdidaaGreat
end
section
namespace Go.Gra
open Go.Dfl (nth nth_mem mem_nth nth_eq nth_ext)
theorem mkL_code {n : Int} {es : List (Int × Int)} {g : G} {c : Int} (h : MkL n es g c) (hl : es.length ≤ 32768) (hc : c = 0) : gCode g = 0:=by
 rcases h with ⟨-,h1, -⟩ | ⟨-,h1, -⟩ | ⟨-, -,h1, -⟩ | ⟨⟨h1,h2⟩,h3, -,h5,h6⟩
 ·omega
 ·omega
 ·omega
 ·have hn : g.es.Nodup:=h6.srt.imp fun {a b} h (e : a = b) => eLt_irrefl a (by rw [← e] at h; exact h)
  have hle:=Go.Kah.nodup_le g.es es hn fun x hx => (h6.mem x).1 hx
  refine gCode_ok.2 ⟨by omega,by omega,by omega,fun e he => ?_,h6.srt⟩
  have h7:=h3 e ((h6.mem e).1 he)
  simp only [inB,nodeB,Bool.and_eq_true,decide_eq_true_eq] at h7
  rw [h5]; omega
end Go.Gra
namespace Go.Proofs.YtgblfjccccdidaaGreat
open Go.RowKit Go.Dfl Go.Gra Go.Tj Go.Clp
open Go.And (R Sy Vld Sm chkG chkCode colC colC_ok chkG_ok chkCode_ok)
theorem parts_lds {g : G} {ls : List (List Int)} {of : List Int} {es : List (Int × Int)} (h : PartsAre g ls of) (hvg : VG g) (hs : ∀ e,e ∈ g.es ↔ e ∈ es) :
  ∃ (l : List Int) (L : List Nat),Lds (eI es) g.n.toNat l∧L.Nodup∧(∀ v,v ∈ L ↔ v < g.n.toNat∧nth l v = (v : Int))∧ls = L.map (memL l g.n.toNat):=by
 obtain ⟨l,L,h1,h2,h3, -⟩:=h.ex
 have hE : ∀ a b,eG g a b ↔ eI es a b:=fun a b => by
  unfold eG eI
  rw [mem_suc]
  constructor
  ·rintro ⟨ha,⟨x,y⟩,he,h4,h5⟩
   have:=(hvg.inn _ he).2
   dsimp only at h4 h5 this
   rw [← hs]
   rw [show ((a : Int),(b : Int)) = (x,y) from Prod.ext h4.symm (by dsimp only; omega)]
   exact he
  ·intro he
   rw [← hs] at he
   have:=(hvg.inn _ he).1
   dsimp only at this
   exact ⟨by omega,_,he,rfl,rfl⟩
 have hl : Lds (eI es) g.n.toNat l:=Lds.iff hE h1
 have hhd : ∀ v,v < g.n.toNat→nth l v = (hdN l (v : Int) : Nat):=fun v hv => (h1.hd hv).1
 refine ⟨l,L,hl,h2.nd,fun v => ?_, ?_⟩
 ·rw [h2.mem]
  constructor
  ·rintro ⟨h4,h5⟩; exact ⟨h5,by rw [hhd v h5,h4]⟩
  ·rintro ⟨h4,h5⟩; exact ⟨by rw [hhd v h4] at h5; omega,h4⟩
 ·rw [h3]
  refine List.map_congr_left fun h _ => ?_
  unfold compK memL castL
  congr 1
  refine List.filter_congr fun v hv => ?_
  have hv' : v < g.n.toNat:=List.mem_range.1 hv
  rw [hhd v hv']
  have : (hdN l (v : Int) = h) = (((hdN l (v : Int) : Nat) : Int) = (h : Int)):=propext (by omega)
  simp only [this]
def CompsN (g : G) (W : World) (e : Ending) (W' : World) : Prop:=∃ ls of v vs,e = .returned (.tuple #[v,.int .i64 0])∧PartsAre g ls of∧OwnN IIg W' W.heap.size 32 v vs ls∧Below W.heap.size W W'
theorem partsC (x y : Value) (w : World) : (Instr.field 123 (.agg #[x,y]) 0).run Tryz.prog w = .ok x w:=by kernel_rfl
theorem ownN_mono {W : World} {base base' : Nat} {eo : TypeId} {v : Value} {vs : List Value} {ls : List (List Int)} (h : OwnN IIg W base eo v vs ls) (hb : base' ≤ base) : OwnN IIg W base' eo v vs ls :=
 ⟨h.out.mono hb,h.len,fun i hi => (h.inn i hi).mono hb,h.sep,h.apart⟩
set_option maxHeartbeats 1600000 in
set_option maxRecDepth 100000 in
theorem gCompsN_any (g : G) (cv : Value) (W : World) (h : Pairs W cv g.es) (hvg : VG g) : Calls Tryz.prog 47 #[GV g cv] W (CompsN g W):=by
 obtain ⟨ca,cc,rfl, -, -, -⟩:=pairs_rd h
 have hal:=(Below.refl W.heap.size W).alloc (Nat.le_refl _) (.cells #[.int .i64 g.n,.slice ca g.es.length cc] 71)
 have H0:=Lib.hid (And.intro (h.below hal) (And.intro hal (BoxG.new W g.n (.slice ca g.es.length cc) 71)))
 clear h hal
 unfold GV
 have HC:=Lib.hid (And.intro (gCode_ok.2 hvg) hvg)
 clear hvg
 go_enter Tryz.func47,Tryz.ntmps47
 go_wp2_with fail
 have hck:=gCheck_any g (.slice ca g.es.length cc) _ H0.out.1
 unfold GV at hck
 rw [HC.out.1] at hck
 refine hck.mono ?_
 rintro e W1 ⟨rfl,r1⟩
 have H1:=Lib.hid (And.intro (H0.out.1.below r1) (And.intro (H0.out.2.1.trans (r1.mono H0.out.2.1.size)) (H0.out.2.2.below r1)))
 clear r1 hck
 obtain ⟨c0,c1⟩:=H1.out.2.2
 have hfld:=partsC
 go_wp2_with fail
 have hsp:=gSplit_any g (.slice ca g.es.length cc) _ H1.out.1 HC.out.2
 unfold GV at hsp
 refine hsp.mono ?_
 rintro e W2 ⟨ls,of,lv,vs,ov,rfl,hpa,hl,ho,b2⟩
 have H2:=Lib.hid (And.intro hpa (And.intro (ownN_mono hl H1.out.2.1.size) (H1.out.2.1.trans (b2.mono H1.out.2.1.size))))
 clear hpa hl ho b2 hsp
 go_wp2_with fail
 go_ret2
 exact ⟨ls,of,lv,vs,rfl,H2.out.1,H2.out.2.1,H2.out.2.2⟩
def CycR (s : Sy) (W : World) (e : Ending) (W' : World) : Prop:=∃ l v vs,e = .returned (.tuple #[v,.int .i64 0])∧Lds (eI (copE s.cons)) s.vars.toNat l∧Grid (Value.int .i64) W' v vs (cycL l s.vars.toNat)∧Below W.heap.size W W'
set_option maxHeartbeats 3200000 in
set_option maxRecDepth 100000 in
theorem gcycles_any (s : Sy) (cv : Value) (W : World) (hc : ConsIn W cv s.cons) (hl9 : s.cons.length ≤ 1000) (hv : Vld s) (hn : s.vars ≤ 8192) :
  Calls Tryz.prog 26 #[SysV s cv] W (CycR s W):=by
 obtain ⟨ca,cc,rfl,hlen,hci,hcc⟩:=hc.out
 have hbs:=BoxS.new W s (.slice ca s.cons.length cc) 24
 have hb0:=(Below.refl W.heap.size W).alloc (Nat.le_refl _) (.cells #[.int .i64 s.vars,.int .i64 s.sites,.int .i64 s.fields,.slice ca s.cons.length cc] 24)
 have H0:=Lib.hid (And.intro hbs (And.intro hb0 (And.intro hcc (And.intro hv (show OwnE elE (W.alloc (.cells #[.int .i64 s.vars,.int .i64 s.sites,.int .i64 s.fields,.slice ca s.cons.length cc] 24)) (W.heap.size + 1) 60 (.slice none 0 0) [] from OwnE.nil _ _ _ _)))))
 have v0:=hv.vars
 clear hbs hb0 hcc hc hv
 unfold SysV
 go_enter Tryz.func26,Tryz.ntmps26
 go_wp2_with fail
 refine wp_gen (fun Z => BoxS Z W.heap.size s (.slice ca s.cons.length cc)∧Below W.heap.size W Z∧OwnE elE Z (W.heap.size + 1) 60 (.slice none 0 0) []) ⟨H0.out.1,H0.out.2.1,H0.out.2.2.2.2⟩ ?_
 intro Z0 hZ0
 obtain ⟨bw,hbw⟩ : ∃ bw,bw = W.heap.size:=⟨_,rfl⟩
 rw [← hbw] at hZ0 ⊢
 have HZ0:=Lib.hid (And.intro hZ0 hbw)
 clear hZ0 hbw
 go_loopw [4,6,13] (fun y _ x wr => ∃ (k : Nat) (ea : Option Addr) (ec : Nat),k ≤ s.cons.length∧x = .int .i64 k∧y = .slice ea (copE (s.cons.take k)).length ec∧Hid (BoxS wr bw s (.slice ca s.cons.length cc)∧Below bw W wr∧OwnE elE wr (bw + 1) 60 (.slice ea (copE (s.cons.take k)).length ec) (copE (s.cons.take k)))) (fun _ _ x _ => s.cons.length - (intOf x).toNat)
 case atStart => exact ⟨0,none,0,by omega,rfl,rfl,HZ0.out.1.1,HZ0.out.1.2.1,HZ0.out.1.2.2⟩
 case round =>
  obtain ⟨k,ea,ec,hk,rfl,rfl,hh⟩:=hrel
  obtain ⟨d0,d1,d2,d3⟩:=hh.out.1
  have hwz : bw + 1 ≤ wr.heap.size:=World.block_lt_of_cell? wr _ d0
  have hbel:=hh.out.2.1
  by_cases hlt : k < s.cons.length
  ·obtain ⟨sa,sn,sc,c0,c1,c2,c3,c4,hset,hbl⟩:=H0.out.2.2.1 k hlt
   have hbl' : blk ca < bw:=by rw [HZ0.out.2]; exact hbl
   rw [← hbel.cell (p:=⟨blk ca,ofs ca + k * 5,none⟩) hbl'] at c0
   rw [← hbel.cell (p:=⟨blk ca,ofs ca + k * 5 + 1,none⟩) hbl'] at c1
   rw [← hbel.cell (p:=⟨blk ca,ofs ca + k * 5 + 2,none⟩) hbl'] at c2
   rw [← hbel.cell (p:=⟨blk ca,ofs ca + k * 5 + 3,none⟩) hbl'] at c3
   rw [← hbel.cell (p:=⟨blk ca,ofs ca + k * 5 + 4,none⟩) hbl'] at c4
   have hel : (copE (s.cons.take k)).length ≤ 1000:=Nat.le_trans (copE_len _) (by simp; omega)
   obtain ⟨c,hcd⟩ : ∃ c,c = nth s.cons k:=⟨_,rfl⟩
   rw [← hcd] at c0 c1 c2 c3
   have hg9:=grownBy_alloc wr (.cells #[.int .i64 c.k,.int .i64 c.a,.int .i64 c.b,.int .i64 c.f,.slice sa sn sc] 48)
   have hx:=And.intro (hh.out.1.grown hg9 (by simp)) (And.intro (hbel.grown hg9 (by omega) (by simp)) (OwnE.grown hh.out.2.2 hg9 (by cases (Value.slice ea (copE (s.cons.take k)).length ec).ownBlock <;> simp)))
   have HX:=Lib.hid (And.intro hx (And.intro hcd (show bw + 1 ≤ (wr.alloc (.cells #[.int .i64 c.k,.int .i64 c.a,.int .i64 c.b,.int .i64 c.f,.slice sa sn sc] 48)).heap.size by simp; omega)))
   clear hx hg9 hbel hbl hbl' hset
   by_cases h2 : c.k = 2
   ·have hw : (c.k == 2) = true:=by simpa using h2
    have hyes:=copE_yes hlt (by rw [← hcd]; exact h2)
    rw [← hcd] at hyes
    have HY:=Lib.hid hyes
    clear hyes h2 hcd
    generalize hE : copE (s.cons.take k) = E at *
    go_wp2_with (at_builtin; refine wp_appendE (E:=elE) sEdge rfl rfl _ _ rfl (v:=.slice ea E.length ec) (l:=E) (base:=bw + 1) rfl (wr.heap.size + 1) rfl (OwnE.grown HX.out.1.2.2 (grownBy_alloc _ (.cells #[.int .i64 c.a,.int .i64 c.b] 60)) (by cases (Value.slice ea E.length ec).ownBlock <;> simp)) (c.a,c.b) (cells_new (cs:=[.int .i64 c.a,.int .i64 c.b]) (by simp)) (by omega) (by omega) (by simp; omega) ?_; intro v' w3 hown hgr hat; obtain ⟨s9,c9,rfl⟩:=hown.shape (n:=E.length + 1) (by simp))
    have hla:=HX.out.2.2
    have hrow : ∀ q,(Value.slice ea E.length ec).ownBlock = some q→bw + 1 ≤ q:=fun q hq => (OwnE.lt HX.out.1.2.2 q hq).1
    have gA:=grownBy_alloc (wr.alloc (.cells #[.int .i64 c.k,.int .i64 c.a,.int .i64 c.b,.int .i64 c.f,.slice sa sn sc] 48)) (.cells #[.int .i64 c.a,.int .i64 c.b] 60)
    have r1:=(HX.out.1.1.grown gA (by simp)).grown hgr (fun e => by have:=hrow _ e.symm; omega)
    have r2:=(HX.out.1.2.1.grown gA (by omega) (by simp)).grown hgr (by simp; omega) (fun q hq => by have:=hrow q hq; omega)
    have HR:=Lib.hid (And.intro r1 (And.intro r2 hown))
    clear r1 r2 hown hgr hat gA
    go_wp2_with fail
    go_roundw
    case rel => exact ⟨k + 1,s9,c9,by omega,by go_num,by rw [HY.out]; simp,by
     rw [HY.out,List.length_append]
     exact HR.out⟩
    case measure => simp [intOf]; omega
   ·have hw : (c.k == 2) = false:=by simpa using h2
    have hno:=copE_no hlt (by rw [← hcd]; exact h2)
    have HN:=Lib.hid hno
    clear hno h2 hcd
    go_wp2_with fail
    go_roundw
    case rel => exact ⟨k + 1,ea,ec,by omega,by go_num,by rw [HN.out],by rw [HN.out]; exact HX.out.1⟩
    case measure => simp [intOf]; omega
  ·obtain rfl : k = s.cons.length:=by omega
   rw [List.take_length] at hh ⊢
   have hel:=copE_len s.cons
   obtain ⟨E,hE⟩ : ∃ E,E = copE s.cons:=⟨_,rfl⟩
   rw [← hE] at hh hel ⊢
   have hinn : ∀ e ∈ E,inB s.vars e = true:=fun e he => by
    rw [hE] at he
    obtain ⟨c,hc,h2,h3,h4⟩:=mem_copE.1 he
    have hv:=H0.out.2.2.2.1.cons c hc
    have ha:=hv.a
    rw [if_neg (by omega)] at ha
    rw [inB_iff, ← h3, ← h4]
    exact ⟨ha,hv.b⟩
   have HH:=Lib.hid (And.intro hh.out (And.intro hE hinn))
   clear hh hE hinn d1 d2 d3
   go_wp2_with fail
   refine (gMake_any s.vars _ E wr (own_pairs HH.out.1.2.2) (by omega)).mono ?_
   rintro e W1 ⟨ga,gc,g,code,rfl,hp,hmk,b1⟩
   have hcode : code = 0∧g.n = s.vars∧(∀ e,e ∈ g.es ↔ e ∈ E)∧VG g:=by
    have h9 : code = 0∧g.n = s.vars∧SortOf E g.es:=by
     rcases hmk with ⟨h1, -⟩ | ⟨h1, -⟩ | ⟨-,⟨e,he,hb⟩, -⟩ | ⟨-, -,h1,h2,h3⟩
     ·omega
     ·omega
     ·rw [HH.out.2.2 e he] at hb; cases hb
     ·exact ⟨h1,h2,h3⟩
    exact ⟨h9.1,h9.2.1,h9.2.2.mem,gCode_ok.1 (mkL_code hmk (by omega) h9.1)⟩
   obtain ⟨rfl,hgn,hge,hvg⟩:=hcode
   have hbl:=HH.out.1.2.1
   have hA:=(Below.refl W1.heap.size W1).alloc (Nat.le_refl _) (.cells #[.int .i64 g.n,.slice ga g.es.length gc] 71)
   have hp1:=hp.below hA
   have hbW1 : Below W.heap.size W W1:=by
    have:=hbl.trans (b1.mono (by omega))
    rwa [HZ0.out.2] at this
   have hbW2 : Below W.heap.size W (W1.alloc (.cells #[.int .i64 g.n,.slice ga g.es.length gc] 71)):=hbW1.trans (hA.mono hbW1.size)
   have H1:=Lib.hid (And.intro hp1 (And.intro hbW2 (And.intro hgn (And.intro hge hvg))))
   clear hp hmk b1 hgn hge hvg hbl hA hp1 hbW1 hbW2
   unfold GV
   go_wp2_with fail
   have hcc:=gCompsN_any g (.slice ga g.es.length gc) _ H1.out.1 H1.out.2.2.2.2
   unfold GV at hcc
   refine hcc.mono ?_
   rintro e W2 ⟨ls,of,lv,lvs,rfl,hpa,hN,b2⟩
   obtain ⟨l,L,hl,hLn,hLm,hls⟩:=parts_lds hpa H1.out.2.2.2.2 H1.out.2.2.2.1
   have hbW3:=H1.out.2.1.trans (b2.mono H1.out.2.1.size)
   have hN':=ownN_mono hN H1.out.2.1.size
   have hlsl : ls.length ≤ 1000000:=by
    rw [hls,List.length_map]
    have:=Go.Kah.nodup_le L (List.range g.n.toNat) hLn fun x hx => List.mem_range.2 ((hLm x).1 hx).1
    have h3:=H1.out.2.2.2.2.n1
    simp at this; omega
   have H2:=Lib.hid (And.intro hN' (And.intro hbW3 (And.intro hl (And.intro hLn (And.intro hLm hls)))))
   clear hpa hN b2 hl hLn hLm hls hbW3 hN' hcc
   go_wp2_with fail
   refine (del_any W.heap.size lv lvs ls W2 H2.out.1 hlsl).mono ?_
   rintro e W3 ⟨dv,dvs,rfl,hD,hgr,hob⟩
   have hbW4 : Below W.heap.size W W3:=H2.out.2.1.grown hgr H2.out.2.1.size fun q hq => (H2.out.1.foot kIIg q (.inl hq)).1
   have H3:=Lib.hid (And.intro hD hbW4)
   clear hD hgr hob hbW4
   go_wp2_with fail
   refine (sortL_any W.heap.size dv dvs (ls.filter bigB) W3 H3.out.1 (Nat.le_trans (List.length_filter_le _ _) hlsl) (fun i hi => ?_)).mono ?_
   ·have h9 : bigB (nth (ls.filter bigB) i) = true:=(List.mem_filter.1 (nth_mem _ _ hi)).2
    have : 2 ≤ (nth (ls.filter bigB) i).length:=of_decide_eq_true h9
    omega
   rintro e W4 ⟨rfl,svs,sll,hS,hperm,hsort,hgr⟩
   have hbW5 : Below W.heap.size W W4:=H3.out.2.grown hgr H3.out.2.size fun q hq => (H3.out.1.foot kIIg q (.inl hq)).1
   have heq : sll = cycL l g.n.toNat:=cycL_of H2.out.2.2.1 H2.out.2.2.2.1 H2.out.2.2.2.2.1 (by rw [← H2.out.2.2.2.2.2]; exact hperm) hsort
   have hfin : ∃ l v vs,Ending.returned (.tuple #[dv,.int .i64 0]) = .returned (.tuple #[v,.int .i64 0])∧Lds (eI (copE s.cons)) s.vars.toNat l∧Grid (Value.int .i64) W4 v vs (cycL l s.vars.toNat)∧Below W.heap.size W W4:=by
    refine ⟨l,dv,svs,rfl, ?_, ?_,hbW5⟩
    ·have:=H2.out.2.2.1
     rw [HH.out.2.1,H1.out.2.2.1] at this
     exact this
    ·rw [← H1.out.2.2.1, ← heq]; exact OwnN.grid hS
   have HF:=Lib.hid hfin
   clear hS hperm hsort hgr hbW5 heq hfin
   go_wp2_with fail
   go_ret2
   exact HF.out
def CyclesR (s : Sy) (W : World) (e : Ending) (W' : World) : Prop :=
 (colC s ≠ 0∧e = .returned (.tuple #[.slice none 0 0,.int .i64 (colC s)])∧Below W.heap.size W W') ∨ (colC s = 0∧CycR s W e W')
set_option maxHeartbeats 1600000 in
theorem gCycles_any (s : Sy) (cv : Value) (W : World) (hc : ConsIn W cv s.cons) (hl9 : s.cons.length ≤ 1000) :
  Calls Tryz.prog 10 #[SysV s cv] W (CyclesR s W):=by
 have hbs:=BoxS.new W s cv 24
 have hb0:=(Below.refl W.heap.size W).alloc (Nat.le_refl _) (.cells #[.int .i64 s.vars,.int .i64 s.sites,.int .i64 s.fields,cv] 24)
 have H0:=Lib.hid (And.intro hc (And.intro hb0 hbs))
 clear hc hb0 hbs
 unfold SysV
 go_enter Tryz.func10,Tryz.ntmps10
 go_wp2_with fail
 have hck:=colcheck_any s cv _ (H0.out.1.below H0.out.2.1) hl9
 unfold SysV at hck
 refine hck.mono ?_
 rintro e W1 ⟨rfl,q1⟩
 obtain ⟨d0,d1,d2,d3⟩:=H0.out.2.2.grown (grownBy_below q1) (by simp)
 have b1:=H0.out.2.1.trans (q1.mono H0.out.2.1.size)
 have H1:=Lib.hid b1
 clear b1 q1 hck
 by_cases h0 : colC s = 0
 ·rw [h0]
  have HC:=Lib.hid h0
  clear h0
  go_wp2_with fail
  have hv:=chkCode_ok.1 (chkG_ok (colC_ok HC.out).1).1
  have hcy:=gcycles_any s cv W1 (H0.out.1.below H1.out) hl9 hv (colC_ok HC.out).2
  unfold SysV at hcy
  refine hcy.mono ?_
  rintro e W2 ⟨l,v,vs,rfl,hl,hg,b2⟩
  have H2:=Lib.hid (And.intro hl (And.intro hg (H1.out.trans (b2.mono H1.out.size))))
  clear hl hg b2 hcy hv
  go_wp2_with fail
  go_ret2
  exact .inr ⟨HC.out,l,v,vs,rfl,H2.out⟩
 ·have w0 : (colC s != 0) = true:=by simpa using h0
  have HC:=Lib.hid h0
  clear h0
  generalize hcd : colC s = code at *
  have HCD:=Lib.hid hcd
  clear hcd
  go_wp2_with fail
  go_ret2
  exact .inl ⟨by rw [HCD.out]; exact HC.out,by rw [HCD.out]; rfl,H1.out⟩
end Go.Proofs.YtgblfjccccdidaaGreat
end
section
namespace Go.Proofs.YtgblfjccccdidaaGreat
open Go.RowKit Go.Dfl Go.And
def expL (lu : List (List Int)) (rep : List Int) : List (List Int):=rep.map fun r => nth lu r.toNat
theorem expL_len (lu : List (List Int)) (rep : List Int) : (expL lu rep).length = rep.length:=List.length_map ..
theorem expL_nth {lu : List (List Int)} {rep : List Int} {i : Nat} (h : i < rep.length) : nth (expL lu rep) i = nth lu (nth rep i).toNat:=by
 unfold expL
 rw [nth_eq _ _ (by simpa using h),nth_eq _ _ h]; simp
def Own2 (W : World) (base : Nat) (u v : Value) (lu lv : List (List Int)) : Prop:=(∃ us,OwnN IInt W base 32 u us lu)∧∃ vs,OwnN IInt W base 32 v vs lv
theorem Own2.pts {W : World} {base : Nat} {u v : Value} {lu lv : List (List Int)} (h : Own2 W base u v lu lv) : PtsIn W u v lu lv:=by
 obtain ⟨⟨us,h1⟩,vs,h2⟩:=h
 exact ⟨⟨us,h1.grid⟩,vs,h2.grid⟩
theorem Own2.grown {W W' : World} {base : Nat} {u v : Value} {lu lv : List (List Int)} {row : Option Nat} (h : Own2 W base u v lu lv) (hg : W.grownBy W' row) (hr : ∀ k,row = some k→k < base) : Own2 W' base u v lu lv:=by
 obtain ⟨⟨us,h1⟩,vs,h2⟩:=h
 exact ⟨⟨us,h1.grown kInt hg fun k e hf => by have:=(h1.foot kInt k hf).1; have:=hr k e; omega⟩,vs,h2.grown kInt hg fun k e hf => by have:=(h2.foot kInt k hf).1; have:=hr k e; omega⟩
theorem ownN_monoI {W : World} {base base' : Nat} {eo : TypeId} {v : Value} {vs : List Value} {ls : List (List Int)} (h : OwnN IInt W base eo v vs ls) (hb : base' ≤ base) : OwnN IInt W base' eo v vs ls :=
 ⟨h.out.mono hb,h.len,fun i hi => (h.inn i hi).mono hb,h.sep,h.apart⟩
def ExpR (lu lv : List (List Int)) (rep : List Int) (W : World) (e : Ending) (W' : World) : Prop :=
 (rep.length ≠ lu.length∧e = .returned (.tuple #[.agg #[.slice none 0 0,.slice none 0 0],.int .i64 20])∧Below W.heap.size W W') ∨
 (rep.length = lu.length∧Prt.chk rep ≠ 0∧e = .returned (.tuple #[.agg #[.slice none 0 0,.slice none 0 0],.int .i64 (Prt.chk rep)])∧Below W.heap.size W W') ∨
 (rep.length = lu.length∧Prt.chk rep = 0∧∃ ua uc va vc,e = .returned (.tuple #[.agg #[.slice ua rep.length uc,.slice va lv.length vc],.int .i64 0])∧Own2 W' W.heap.size (.slice ua rep.length uc) (.slice va lv.length vc) (expL lu rep) lv∧Below W.heap.size W W')
theorem grid_rdC {W : World} {v : Value} {vs : List Value} {ll : List (List Int)} (h : Grid (Value.int .i64) W v vs ll) :
  ∃ a c,v = .slice a ll.length c∧ll.length ≤ 9223372036854775807∧(∀ (k : IntKind) (x : Int),0 ≤ x→x < ll.length→∀ Z,(Instr.indexAt 27 (.slice a ll.length c) (.int k x)).run Tryz.prog Z = .ok (.pointer (some ⟨blk a,ofs a + x.toNat,none⟩)) Z) ∧
   ∀ j,j < ll.length→W.cell? ⟨blk a,ofs a + j,none⟩ = some (nth vs j)∧blk a < W.heap.size:=by
 obtain ⟨a,c,rfl,h1,h2,h3,h4⟩:=h.1.out1 sInt2
 rw [h.2.1] at h1 h2 h3 h4 ⊢
 exact ⟨a,c,rfl,h1,h2,fun j hj => ⟨h3 j hj,h4 j hj⟩⟩
set_option maxHeartbeats 6400000 in
set_option maxRecDepth 100000 in
theorem Expand_any (u v rv : Value) (us vs : List Value) (lu lv : List (List Int)) (rep : List Int) (W : World) (hu : Grid (Value.int .i64) W u us lu) (hv : Grid (Value.int .i64) W v vs lv) (hr : Ints W rv rep)
  (bu : ∀ i,i < lu.length→(nth lu i).length ≤ 1000000) (bv : ∀ i,i < lv.length→(nth lv i).length ≤ 1000000) (bl : lv.length ≤ 1000000) :
  Calls Tryz.prog 14 #[.agg #[u,v],rv] W (ExpR lu lv rep W):=by
 obtain ⟨ua,uc,rfl,um,ui,ucell⟩:=grid_rdC hu
 obtain ⟨va,vc,rfl,vm,vi,vcell⟩:=grid_rdC hv
 have HG:=Lib.hid (And.intro hu (And.intro hv (And.intro bu (And.intro bv (And.intro ucell vcell)))))
 have hr0:=hr
 obtain ⟨ra,rc,rfl,rm,ri,rcell,rblk⟩:=hr.out1 sIntC
 have HR:=Lib.hid (And.intro hr0 (And.intro rcell rblk))
 clear hu hv bu bv ucell vcell hr hr0 rcell rblk
 have b0 : Below W.heap.size W ((W.alloc (.cells #[.slice ua lu.length uc,.slice va lv.length vc] 34)).alloc (.cells #[.slice none 0 0,.slice none 0 0] 34)):=((Below.refl W.heap.size W).alloc (Nat.le_refl _) _).alloc (by simp) _
 have HB0:=Lib.hid b0
 clear b0
 by_cases hlen : rep.length = lu.length
 ·have q0 : ((rep.length : Int) != (lu.length : Int)) = false:=by simp; omega
  have HL:=Lib.hid hlen
  clear hlen
  go_enter Tryz.func14,Tryz.ntmps14
  go_wp2_with fail
  refine (Prt.Check_any _ rep _ (HR.out.1.below HB0.out)).mono ?_
  rintro e W1 ⟨rfl,hq⟩
  have g1:=(grownBy_trans (grownBy_trans (grownBy_alloc W (.cells #[.slice ua lu.length uc,.slice va lv.length vc] 34)) (grownBy_alloc _ (.cells #[.slice none 0 0,.slice none 0 0] 34))) (grownBy_qt hq))
  have b1 : Below W.heap.size W W1:=HB0.out.trans (hq.below _)
  have hp : W1.cell? ⟨W.heap.size,0,none⟩ = some (.slice ua lu.length uc)∧W1.cell? ⟨W.heap.size,1,none⟩ = some (.slice va lv.length vc):=by
   have hn:=cells_new (W:=W) (cs:=[.slice ua lu.length uc,.slice va lv.length vc]) (t:=34) rfl
   have g2:=grownBy_trans (grownBy_alloc (W.alloc (.cells #[.slice ua lu.length uc,.slice va lv.length vc] 34)) (.cells #[.slice none 0 0,.slice none 0 0] 34)) (grownBy_qt hq)
   exact ⟨g2.cell (hn 0 _ rfl) (by simp),g2.cell (hn 1 _ rfl) (by simp)⟩
  have hx : ExM (W.heap.size + 1) (.slice none 0 0) (.slice none 0 0) [] [] [] [] (W.alloc (.cells #[.slice ua lu.length uc,.slice va lv.length vc] 34)) W1:=by
   have:=ExM.new (W.alloc (.cells #[.slice ua lu.length uc,.slice va lv.length vc] 34)) 34
   rw [World.size_alloc] at this
   exact this.grown (grownBy_qt hq)
  obtain ⟨bp,hbp⟩ : ∃ bp,bp = W.heap.size:=⟨_,rfl⟩
  obtain ⟨br,hbr⟩ : ∃ br,br = W.heap.size + 1:=⟨_,rfl⟩
  rw [← hbp] at hp
  rw [← hbr] at hx
  have HX:=Lib.hid (And.intro hx (And.intro b1 (And.intro hbp (And.intro hbr hp))))
  obtain ⟨p0,p1⟩:=hp
  have r0:=hx.c0
  have r1:=hx.c1
  have f0:=hx.frz 0
  have f1:=hx.frz 1
  have lp : bp < W1.heap.size:=World.block_lt_of_cell? W1 _ p0
  have lr : br < W1.heap.size:=hx.lt
  have npr : bp ≠ br:=by omega
  rw [show ((W.heap.size : Nat)) = bp from hbp.symm]
  rw [show ((bp + 1 : Nat)) = br by omega]
  clear g1 b1 hx hq hbp hbr HB0
  by_cases hc : Prt.chk rep = 0
  ·rw [hc]
   have HC:=Lib.hid hc
   clear hc
   have hx1:=HX.out.1.grown (grownBy_alloc W1 (.cells #[.slice none 0 0,.slice none 0 0] 34))
   have hx2:=ExM.new W1 34
   have pp:=(grownBy_alloc W1 (.cells #[.slice none 0 0,.slice none 0 0] 34)).cell p0 (by simp)
   have pq:=(grownBy_alloc W1 (.cells #[.slice none 0 0,.slice none 0 0] 34)).cell p1 (by simp)
   have HA:=Lib.hid (And.intro hx1 (And.intro hx2 (And.intro pp pq)))
   clear hx1 hx2 pp pq p0 p1 r0 r1 f0 f1
   go_wp2_with fail
   refine wp_gen (fun Z => ExM br (.slice none 0 0) (.slice none 0 0) [] [] [] [] (W.alloc (.cells #[.slice ua lu.length uc,.slice va lv.length vc] 34)) Z∧ExM W1.heap.size (.slice none 0 0) (.slice none 0 0) [] [] [] [] W1 Z∧Z.cell? ⟨bp,0,none⟩ = some (.slice ua lu.length uc)∧Z.cell? ⟨bp,1,none⟩ = some (.slice va lv.length vc)) HA.out ?_
   intro Z0 hZ0
   obtain ⟨bo,hbo⟩ : ∃ bo,bo = W1.heap.size:=⟨_,rfl⟩
   rw [← hbo] at hZ0 lp lr ⊢
   have HZ0:=Lib.hid (And.intro hZ0 hbo)
   have hck:=Prt.chk_ok HC.out
   have HK:=Lib.hid hck
   have hr8:=hck.1
   clear hZ0 hbo hck HA
   go_loopw [9,27] (fun _ x wr => ∃ (k : Nat) (oa : Option Addr) (oc : Nat) (os : List Value),k ≤ rep.length∧x = .int .i64 k∧Hid (ExM bo (.slice oa k oc) (.slice none 0 0) os [] ((expL lu rep).take k) [] W1 wr)) (fun _ x _ => rep.length - (intOf x).toNat)
   case atStart => exact ⟨0,none,0, [],by omega,rfl,HZ0.out.1.2.1⟩
   case round =>
    obtain ⟨k,oa,oc,os,hk,rfl,hh⟩:=hrel
    have c0:=hh.out.c0
    have c1:=hh.out.c1
    have z0:=hh.out.frz 0
    have z1:=hh.out.frz 1
    have hB : bo + 1 ≤ wr.heap.size:=hh.out.lt
    have hw1 : Below bo W1 wr:=hh.out.bel
    have q0 : wr.cell? ⟨bp,0,none⟩ = some (.slice ua lu.length uc):=by
     rw [hw1.cell (p:=⟨bp,0,none⟩) lp]; exact HX.out.2.2.2.2.1
    have q1 : wr.cell? ⟨bp,1,none⟩ = some (.slice va lv.length vc):=by
     rw [hw1.cell (p:=⟨bp,1,none⟩) lp]; exact HX.out.2.2.2.2.2
    have hWw : Below W.heap.size W wr:=HX.out.2.1.trans (hw1.mono (by have:=HX.out.2.1.size; rw [HZ0.out.2]; exact this))
    by_cases hlt : k < rep.length
    ·obtain ⟨r,hr⟩ : ∃ r,r = nth rep k:=⟨_,rfl⟩
     have hck:=HK.out.2 k hlt
     rw [← hr] at hck
     have hrl : r < lu.length:=by have:=HL.out; omega
     have rc0 : wr.cell? ⟨blk ra,ofs ra + k,none⟩ = some (.int .i64 r):=by
      rw [hWw.cell (p:=⟨blk ra,ofs ra + k,none⟩) (HR.out.2.2 k hlt),hr]; exact HR.out.2.1 k hlt
     have ri0:=ri .i64 (k : Int) (by omega) (by omega)
     obtain ⟨rn,rfl⟩ : ∃ rn : Nat,r = (rn : Int):=⟨r.toNat,by omega⟩
     have ui0:=ui .i64 (rn : Int) (by omega) hrl
     rw [Int.toNat_natCast] at ri0 ui0
     have hrn : rn < lu.length:=by omega
     obtain ⟨uc0,ub0⟩:=HG.out.2.2.2.2.1 rn hrn
     rw [← hWw.cell (p:=⟨blk ua,ofs ua + rn,none⟩) ub0] at uc0
     have hgi : Ints wr (nth us rn) (nth lu rn):=(HG.out.1.2.2 rn hrn).below hWw
     have hgl:=HG.out.2.2.1 rn hrn
     have HI:=Lib.hid (And.intro hr (And.intro hgi (And.intro hgl (And.intro hWw hw1))))
     have HH:=Lib.hid hh.out
     clear hr hck hrl hgi hgl hWw hw1 hh ub0
     go_upto_region 10 with fail
     refine wp_region_mix [0,1,2,3,4,5,6] [7,8,9,10,11] (fun w' => w'.cell? ⟨bo,0,none⟩ = some (.slice oa k oc)∧w'.cell? ⟨bp,0,none⟩ = some (.slice ua lu.length uc)∧w'.cell? ⟨blk ua,ofs ua + rn,none⟩ = some (nth us rn)) (by kernel_rfl) (by kernel_rfl) (by kernel_rfl) ⟨c0,q0,uc0⟩ ?_
     repeat (
      refine wpHeads_cons (v:=?_) rfl (Or.inl ⟨by rfl, ?_⟩) ?_
      rotate_left
      ·(intro W hW; obtain ⟨x1,x2,x3⟩:=hW; go_simp; try with_reducible rfl)
      simp only [Act.put,List.setIfInBounds_toArray,List.getElem_toArray,List.getElem_cons_zero,List.getElem_cons_succ,List.set_cons_succ,List.set_cons_zero])
     refine wpHeads_nil ?_
     refine wpTails_cons rfl ?_
     go_wp2_with fail
     refine (CloneI_any _ (nth lu rn) _ (HI.out.2.1.below ((Below.refl _ _).drew)) HI.out.2.2.1).mono ?_
     rintro e Y ⟨ya,yc,rfl,hy,hyb⟩
     have gY : wr.grownBy Y none:=grownBy_trans (grownBy_drew0 _) (grownBy_below hyb)
     have hx2:=HH.out.grown gY
     have hS : Y.cell? ⟨bo,0,none⟩ = some (.slice oa k oc)∧Y.cell? ⟨bp,0,none⟩ = some (.slice ua lu.length uc)∧Y.cell? ⟨blk ua,ofs ua + rn,none⟩ = some (nth us rn):=⟨gY.cell c0 (by simp),gY.cell q0 (by simp),gY.cell uc0 (by simp)⟩
     have hyo : IInt Y (bo + 1) (.slice ya (nth lu rn).length yc) (nth lu rn):=hy.mono hB
     have hyn : ∀ m,(Value.slice ya (nth lu rn).length yc).ownBlock = some m→¬ Foot (Value.slice oa k oc) os m∧¬ Foot (Value.slice none 0 0) [] m:=fun m hm => HH.out.fresh (hy.lt m hm).1
     have HY:=Lib.hid (And.intro hx2 (And.intro hyo (And.intro hyn (And.intro hS (And.intro gY (show bo + 1 ≤ Y.heap.size from Nat.le_trans hB gY.size))))))
     clear hx2 hyo hyn hS gY hy hyb c0 c1 z0 z1 q0 q1 uc0 rc0 ri0 ui0
     generalize (nth lu rn).length = yn at *
     go_wp2_with fail
     refine tail_mk (S:=fun w' => w'.cell? ⟨bo,0,none⟩ = some (.slice oa k oc)∧w'.cell? ⟨bp,0,none⟩ = some (.slice ua lu.length uc)∧w'.cell? ⟨blk ua,ofs ua + rn,none⟩ = some (nth us rn)) HY.out.2.2.2.1 ?_
     refine wpTails_cons rfl ?_
     go_wp2_with fail
     have hA:=grownBy_alloc Y (.cells #[.slice ya yn yc] 32)
     have hSA : (Y.alloc (.cells #[.slice ya yn yc] 32)).cell? ⟨bo,0,none⟩ = some (.slice oa k oc)∧(Y.alloc (.cells #[.slice ya yn yc] 32)).cell? ⟨bp,0,none⟩ = some (.slice ua lu.length uc)∧(Y.alloc (.cells #[.slice ya yn yc] 32)).cell? ⟨blk ua,ofs ua + rn,none⟩ = some (nth us rn):=⟨hA.cell HY.out.2.2.2.1.1 (by simp),hA.cell HY.out.2.2.2.1.2.1 (by simp),hA.cell HY.out.2.2.2.1.2.2 (by simp)⟩
     have HSA:=Lib.hid hSA
     clear hA hSA
     refine tail_mk HSA.out ?_
     refine wpTails_cons rfl ?_
     have hxa:=HY.out.1.grown (grownBy_alloc Y (.cells #[.slice ya yn yc] 32))
     have hol : os.length = k:=by have:=hxa.ou.len; rw [this,List.length_take,expL_len]; omega
     refine wp_appendS (f:=fun x : Value => x) sInt2 rfl rfl _ _ rfl (bo + 1) (.slice oa k oc) os rfl (.slice (some ⟨Y.heap.size,0,none⟩) 1 1) [.slice ya yn yc] rfl hxa.ou.out (src_one _ (cell_at1 rfl)) (by simp [Value.oneCell']) (by rw [hol]; simp; omega) (by omega) (by have:=HY.out.2.2.2.2.2; simp; omega) ?_
     intro v' W9 ho hg hl
     obtain ⟨s9,c9,rfl⟩:=ho.shape (n:=k + 1) (by simp [hol])
     obtain ⟨⟨t1,t2⟩,hP⟩:=hxa.push0 (l:=nth lu rn) (HY.out.2.1.alloc _) HY.out.2.2.1 ho hg hl
     have nb : ∀ q : Nat,q < W1.heap.size→some q ≠ (Value.slice oa k oc).ownBlock:=fun q hq e => by have:=(hxa.in0 q e.symm).1; have:=HZ0.out.2; omega
     have hS9 : W9.cell? ⟨bo,0,none⟩ = some (.slice oa k oc)∧W9.cell? ⟨bp,0,none⟩ = some (.slice ua lu.length uc)∧W9.cell? ⟨blk ua,ofs ua + rn,none⟩ = some (nth us rn):=⟨t1,hg.cell HSA.out.2.1 (nb _ (by have:=HZ0.out.2; show bp < _; omega)),hg.cell HSA.out.2.2 (nb _ (by have h1:=(HG.out.2.2.2.2.1 rn hrn).2; have h2:=HX.out.2.1.size; show blk ua < _; omega))⟩
     have HP:=Lib.hid (And.intro hP hS9)
     clear hP hS9 ho hg hl hxa hol nb
     refine tail_mk HP.out.2 ?_
     refine wpTails_cons rfl ?_
     go_wp2_with fail
     refine tail_mk HP.out.2 ?_
     refine wpTails_one rfl ?_
     go_wp2_with fail
     refine thenQ_mk ?_
     go_wp2_with fail
     go_roundw
     case rel => exact ⟨k + 1,s9,c9,_,by omega,by go_num,by rw [take_snoc _ _ (by rw [expL_len]; exact hlt),expL_nth hlt, ← HI.out.1]; exact HP.out.1⟩
     case measure => simp [intOf]; omega
    ·obtain rfl : k = rep.length:=by omega
     have hfull : (expL lu rep).take rep.length = expL lu rep:=by rw [List.take_of_length_le]; rw [expL_len]; exact Nat.le_refl _
     rw [hfull] at hh
     have HE:=Lib.hid hh.out
     clear hfull hh hw1 hWw
     go_wp2_with fail
     clear c0 c1 z0 z1 hB q0 q1
     go_loopw [11,46] (fun _ x wr => ∃ (k : Nat) (ca : Option Addr) (cc : Nat) (cs : List Value),k ≤ lv.length∧x = .int .i64 k∧Hid (ExM bo (.slice oa rep.length oc) (.slice ca k cc) os cs (expL lu rep) (lv.take k) W1 wr)) (fun _ x _ => lv.length - (intOf x).toNat)
     case atStart => exact ⟨0,none,0, [],by omega,rfl,HE.out⟩
     case round =>
      obtain ⟨k,ca,cc,cs,hk,rfl,hh⟩:=hrel
      have c0:=hh.out.c0
      have c1:=hh.out.c1
      have z0:=hh.out.frz 0
      have z1:=hh.out.frz 1
      have hB : bo + 1 ≤ wr.heap.size:=hh.out.lt
      have hw1 : Below bo W1 wr:=hh.out.bel
      have hWw : Below W.heap.size W wr:=HX.out.2.1.trans (hw1.mono (by have:=HX.out.2.1.size; rw [HZ0.out.2]; exact this))
      by_cases hlt : k < lv.length
      ·have vi0:=vi .i64 (k : Int) (by omega) (by omega)
       rw [Int.toNat_natCast] at vi0
       obtain ⟨uc0,ub0⟩:=HG.out.2.2.2.2.2 k hlt
       rw [← hWw.cell (p:=⟨blk va,ofs va + k,none⟩) ub0] at uc0
       have hgi : Ints wr (nth vs k) (nth lv k):=(HG.out.2.1.2.2 k hlt).below hWw
       have hgl:=HG.out.2.2.2.1 k hlt
       have HI:=Lib.hid (And.intro hgi (And.intro hgl (And.intro hWw hw1)))
       have HH:=Lib.hid hh.out
       clear hgi hgl hWw hw1 hh ub0
       go_upto_region 15 with fail
       refine wp_region_mix [0,1,2] [3,4,5,6,7] (fun w' => w'.cell? ⟨bo,1,none⟩ = some (.slice ca k cc)) (by kernel_rfl) (by kernel_rfl) (by kernel_rfl) c1 ?_
       repeat (
        refine wpHeads_cons (v:=?_) rfl (Or.inl ⟨by rfl, ?_⟩) ?_
        rotate_left
        ·(intro W hW; go_simp; try with_reducible rfl)
        simp only [Act.put,List.setIfInBounds_toArray,List.getElem_toArray,List.getElem_cons_zero,List.getElem_cons_succ,List.set_cons_succ,List.set_cons_zero])
       refine wpHeads_nil ?_
       refine wpTails_cons rfl ?_
       go_wp2_with fail
       refine (CloneI_any _ (nth lv k) _ (HI.out.1.below ((Below.refl _ _).drew)) HI.out.2.1).mono ?_
       rintro e Y ⟨ya,yc,rfl,hy,hyb⟩
       have gY : wr.grownBy Y none:=grownBy_trans (grownBy_drew0 _) (grownBy_below hyb)
       have hx2:=HH.out.grown gY
       have hS : Y.cell? ⟨bo,1,none⟩ = some (.slice ca k cc):=gY.cell c1 (by simp)
       have hyo : IInt Y (bo + 1) (.slice ya (nth lv k).length yc) (nth lv k):=hy.mono hB
       have hyn : ∀ m,(Value.slice ya (nth lv k).length yc).ownBlock = some m→¬ Foot (Value.slice oa rep.length oc) os m∧¬ Foot (Value.slice ca k cc) cs m:=fun m hm => HH.out.fresh (hy.lt m hm).1
       have HY:=Lib.hid (And.intro hx2 (And.intro hyo (And.intro hyn (And.intro hS (And.intro gY (show bo + 1 ≤ Y.heap.size from Nat.le_trans hB gY.size))))))
       clear hx2 hyo hyn hS gY hy hyb c0 c1 z0 z1 uc0 vi0
       generalize (nth lv k).length = yn at *
       go_wp2_with fail
       refine tail_mk (S:=fun w' => w'.cell? ⟨bo,1,none⟩ = some (.slice ca k cc)) HY.out.2.2.2.1 ?_
       refine wpTails_cons rfl ?_
       go_wp2_with fail
       have hSA:=(grownBy_alloc Y (.cells #[.slice ya yn yc] 32)).cell HY.out.2.2.2.1 (by simp)
       have HSA:=Lib.hid hSA
       clear hSA
       refine tail_mk HSA.out ?_
       refine wpTails_cons rfl ?_
       have hxa:=HY.out.1.grown (grownBy_alloc Y (.cells #[.slice ya yn yc] 32))
       have hol : cs.length = k:=by have:=hxa.ov.len; rw [this,List.length_take]; omega
       refine wp_appendS (f:=fun x : Value => x) sInt2 rfl rfl _ _ rfl (bo + 1) (.slice ca k cc) cs rfl (.slice (some ⟨Y.heap.size,0,none⟩) 1 1) [.slice ya yn yc] rfl hxa.ov.out (src_one _ (cell_at1 rfl)) (by simp [Value.oneCell']) (by rw [hol]; simp; omega) (by omega) (by have:=HY.out.2.2.2.2.2; simp; omega) ?_
       intro v' W9 ho hg hl
       obtain ⟨s9,c9,rfl⟩:=ho.shape (n:=k + 1) (by simp [hol])
       obtain ⟨⟨t1,t2⟩,hP⟩:=hxa.push1 (l:=nth lv k) (HY.out.2.1.alloc _) HY.out.2.2.1 ho hg hl
       have HP:=Lib.hid (And.intro hP t1)
       clear hP t1 ho hg hl hxa hol
       refine tail_mk HP.out.2 ?_
       refine wpTails_cons rfl ?_
       go_wp2_with fail
       refine tail_mk HP.out.2 ?_
       refine wpTails_one rfl ?_
       have t1:=HP.out.2
       go_wp2_with fail
       refine thenQ_mk ?_
       go_wp2_with fail
       go_roundw
       case rel => exact ⟨k + 1,s9,c9,_,by omega,by go_num,by rw [take_snoc _ _ hlt]; exact HP.out.1⟩
       case measure => simp [intOf]; omega
      ·obtain rfl : k = lv.length:=by omega
       rw [List.take_length] at hh
       have HF:=Lib.hid hh.out
       have r0 : wr.cell? ⟨br,0,none⟩ = some (.slice none 0 0):=by
        rw [hw1.cell (p:=⟨br,0,none⟩) lr]; exact HX.out.1.c0
       have r1 : wr.cell? ⟨br,1,none⟩ = some (.slice none 0 0):=by
        rw [hw1.cell (p:=⟨br,1,none⟩) lr]; exact HX.out.1.c1
       have f0 : wr.frozen? ⟨br,0,none⟩ = false:=by
        rw [World.frozen?_of_block (a:=⟨br,0,none⟩) (hw1.block br lr)]; exact HX.out.1.frz 0
       have f1 : wr.frozen? ⟨br,1,none⟩ = false:=by
        rw [World.frozen?_of_block (a:=⟨br,1,none⟩) (hw1.block br lr)]; exact HX.out.1.frz 1
       have HWW:=Lib.hid hWw
       clear hh hw1 hWw
       go_wp2_with fail
       (try simp only [Exit.inBlock,Exit.then])
       refine bodyPost_ret (v:=.tuple #[.agg #[.slice oa rep.length oc,.slice ca lv.length cc],.int .i64 0]) (by rw [results_cell_tmp rfl]; go_simp; try rfl) rfl ?_
       have gs:=grownBy_trans (grownBy_setCell wr ⟨br,0,none⟩ (.slice oa rep.length oc)) (grownBy_setCell (wr.setCell ⟨br,0,none⟩ (.slice oa rep.length oc)) ⟨br,1,none⟩ (.slice ca lv.length cc))
       have hbr:=HX.out.2.2.2.1
       have hbo:=HZ0.out.2
       have n1:=HF.out.ou.grown kInt gs (fun k hk hf => by have:=(HF.out.ou.foot kInt k hf).1; simp at hk; omega)
       have n2:=HF.out.ov.grown kInt gs (fun k hk hf => by have:=(HF.out.ov.foot kInt k hf).1; simp at hk; omega)
       refine .inr (.inr ⟨HL.out,HC.out,oa,oc,ca,cc,rfl,⟨⟨_,ownN_monoI n1 (by omega)⟩,⟨_,ownN_monoI n2 (by omega)⟩⟩, ?_⟩)
       exact (HWW.out.setCell (show W.heap.size ≤ (⟨br,0,none⟩ : Addr).block by show _ ≤ br; omega) _).setCell (show W.heap.size ≤ (⟨br,1,none⟩ : Addr).block by show _ ≤ br; omega) _
  ·have q1 : (Prt.chk rep != 0) = true:=by simpa using hc
   have HC:=Lib.hid hc
   clear hc
   generalize hcd : Prt.chk rep = code at *
   have HCD:=Lib.hid hcd
   clear hcd
   go_wp2_with fail
   (try simp only [Exit.inBlock,Exit.then])
   refine bodyPost_ret (v:=.tuple #[.agg #[.slice none 0 0,.slice none 0 0],.int .i64 code]) (by rw [results_cell_tmp rfl]; go_simp; try rfl) rfl ?_
   have hbr:=HX.out.2.2.2.1
   refine .inr (.inl ⟨HL.out,by rw [HCD.out]; exact HC.out,by rw [HCD.out], ?_⟩)
   exact (HX.out.2.1.setCell (show W.heap.size ≤ (⟨br,0,none⟩ : Addr).block by show _ ≤ br; omega) _).setCell (show W.heap.size ≤ (⟨br,1,none⟩ : Addr).block by show _ ≤ br; omega) _
 ·have q0 : ((rep.length : Int) != (lu.length : Int)) = true:=by simp; omega
  have HL:=Lib.hid hlen
  clear hlen
  go_enter Tryz.func14,Tryz.ntmps14
  go_wp2_with fail
  (try simp only [Exit.inBlock,Exit.then])
  refine bodyPost_ret (v:=.tuple #[.agg #[.slice none 0 0,.slice none 0 0],.int .i64 20]) (by rw [results_cell_tmp rfl]; go_simp; try rfl) rfl ?_
  refine .inl ⟨HL.out,rfl, ?_⟩
  exact HB0.out
end Go.Proofs.YtgblfjccccdidaaGreat
end
section
namespace Go.Dfl
theorem grownBy_fresh {w w' : World} {k : Nat} (h : w.grownBy w' (some k)) (hk : w.heap.size ≤ k) : w.grownBy w' none :=
 ⟨h.os,h.tape,h.output,h.size,fun i hi _ => h.block i hi fun e => by have:=Option.some.inj e; omega⟩
end Go.Dfl
namespace Go.Proofs.YtgblfjccccdidaaGreat
open Go.RowKit Go.Dfl Go.Gra Go.Clp Go.And
def RedOk (s : Sy) (W : World) (e : Ending) (W' : World) : Prop:=∃ l ra rc rv,e = .returned (.tuple #[SysV (red s l) (.slice ra (redL l s.cons).length rc),rv,.int .i64 0])∧Lds (eI (copE s.cons)) s.vars.toNat l∧ConsIn W' (.slice ra (redL l s.cons).length rc) (redL l s.cons)∧Ints W' rv l∧Below W.heap.size W W'
def RedR (s : Sy) (W : World) (e : Ending) (W' : World) : Prop :=
 (colC s ≠ 0∧e = .returned (.tuple #[.agg #[.int .i64 0,.int .i64 0,.int .i64 0,.slice none 0 0],.slice none 0 0,.int .i64 (colC s)])∧Below W.heap.size W W') ∨ (colC s = 0∧RedOk s W e W')
set_option maxHeartbeats 6400000 in
set_option maxRecDepth 100000 in
theorem gReduce_any (s : Sy) (cv : Value) (W : World) (hc : ConsIn W cv s.cons) (hl9 : s.cons.length ≤ 1000) : Calls Tryz.prog 20 #[SysV s cv] W (RedR s W):=by
 obtain ⟨ca,cc,rfl,hlen,hci,hcc⟩:=hc.out
 have hbs:=BoxS.new W s (.slice ca s.cons.length cc) 24
 obtain ⟨Wa,hWa⟩ : ∃ Wa,Wa = W.alloc (.cells #[.int .i64 s.vars,.int .i64 s.sites,.int .i64 s.fields,.slice ca s.cons.length cc] 24):=⟨_,rfl⟩
 have hrb : (Wa.alloc (.cells #[.int .i64 0,.int .i64 0,.int .i64 0,.slice none 0 0] 24)).heap[Wa.heap.size]? = some (.cells #[.int .i64 0,.int .i64 0,.int .i64 0,.slice none 0 0] 24):=heap_alloc_new _ _
 have hb0 : Below W.heap.size W (Wa.alloc (.cells #[.int .i64 0,.int .i64 0,.int .i64 0,.slice none 0 0] 24)):=by
  rw [hWa]
  exact ((Below.refl W.heap.size W).alloc (Nat.le_refl _) _).alloc (by simp) _
 have hbx : BoxS (Wa.alloc (.cells #[.int .i64 0,.int .i64 0,.int .i64 0,.slice none 0 0] 24)) W.heap.size s (.slice ca s.cons.length cc):=by
  rw [hWa]; exact hbs.grown (grownBy_alloc _ _) (by simp)
 rw [hWa,World.size_alloc] at hrb
 rw [hWa] at hb0 hbx
 have H0:=Lib.hid (And.intro hc (And.intro hcc (And.intro hrb (And.intro hb0 hbx))))
 clear hc hcc hrb hb0 hbx hbs hWa
 unfold SysV
 go_enter Tryz.func20,Tryz.ntmps20
 go_wp2_with fail
 have hck:=colcheck_any s (.slice ca s.cons.length cc) _ (H0.out.1.below H0.out.2.2.2.1) hl9
 unfold SysV at hck
 refine hck.mono ?_
 rintro e W1 ⟨rfl,q1⟩
 have hb1 : Below W.heap.size W W1:=H0.out.2.2.2.1.trans (q1.mono H0.out.2.2.2.1.size)
 have hr1 : W1.heap[W.heap.size + 1]? = some (.cells #[.int .i64 0,.int .i64 0,.int .i64 0,.slice none 0 0] 24):=(q1.block _ (by simp)).trans H0.out.2.2.1
 have hx1:=H0.out.2.2.2.2.grown (grownBy_below q1) (by simp)
 obtain ⟨bp,hbp⟩ : ∃ bp,bp = W.heap.size:=⟨_,rfl⟩
 obtain ⟨br,hbr⟩ : ∃ br,br = bp + 1:=⟨_,rfl⟩
 rw [← hbp] at hr1 hx1 ⊢
 rw [← hbr] at hr1 ⊢
 have H1:=Lib.hid (And.intro hb1 (And.intro hr1 (And.intro hx1 (And.intro hbp hbr))))
 obtain ⟨d0,d1,d2,d3⟩:=hx1
 have npr : bp ≠ br:=by omega
 have w0 : W1.cell? ⟨br,0,none⟩ = some (.int .i64 0):=by simp [World.cell?,hr1]
 have w1 : W1.cell? ⟨br,1,none⟩ = some (.int .i64 0):=by simp [World.cell?,hr1]
 have w2 : W1.cell? ⟨br,2,none⟩ = some (.int .i64 0):=by simp [World.cell?,hr1]
 have w3 : W1.cell? ⟨br,3,none⟩ = some (.slice none 0 0):=by simp [World.cell?,hr1]
 have w4 : ∀ j,W1.frozen? ⟨br,j,none⟩ = false:=fun j => by simp [World.frozen?,hr1]
 have w5:=w4 0
 have w6:=w4 1
 have w7:=w4 2
 have w8:=w4 3
 have lbr : br < W1.heap.size:=World.block_lt_of_cell? W1 _ w0
 clear hb1 hr1 hbp hbr q1 hck w4
 by_cases h0 : colC s = 0
 ·rw [h0]
  have HC:=Lib.hid (And.intro h0 (chkCode_ok.1 (chkG_ok (colC_ok h0).1).1))
  clear h0 w0 w1 w2 w3 w5 w6 w7 w8
  go_wp2_with fail
  have hcy:=gcycles_any s (.slice ca s.cons.length cc) W1 (H0.out.1.below H1.out.1) hl9 HC.out.2 (colC_ok HC.out.1).2
  unfold SysV at hcy
  refine hcy.mono ?_
  rintro e W2 ⟨l,yv,ys,rfl,hl,hg,b2⟩
  obtain ⟨ya,yc,rfl,ym,yi,ycell⟩:=grid_rdC hg
  have hcl : (cycL l s.vars.toNat).length ≤ 8192:=by
   refine Nat.le_trans (List.length_filter_le _ _) ?_
   rw [List.length_map]
   refine Nat.le_trans (List.length_filter_le _ _) ?_
   rw [List.length_range]
   have:=(colC_ok HC.out.1).2; omega
  have hcm : ∀ c ∈ cycL l s.vars.toNat,c.length ≤ 8192:=fun c hc => by
   obtain ⟨⟨h, -,rfl⟩, -⟩:=mem_cycL.1 hc
   exact Nat.le_trans (memL_len _ _ _) (by have:=(colC_ok HC.out.1).2; omega)
  obtain ⟨cyc,hcyc⟩ : ∃ cyc,cyc = cycL l s.vars.toNat:=⟨_,rfl⟩
  rw [← hcyc] at hg ym yi ycell hcl hcm ⊢
  have hc2 : ∀ c ∈ cyc,2 ≤ c.length:=fun c hc => by rw [hcyc] at hc; exact (mem_cycL.1 hc).2
  have hb2 : Below W.heap.size W W2:=H1.out.1.trans (b2.mono H1.out.1.size)
  have hx2:=H1.out.2.2.1.grown (grownBy_below b2) (by simp)
  have hr2:=(b2.block br lbr).trans H1.out.2.1
  have lbr2 : br < W2.heap.size:=Nat.lt_of_lt_of_le lbr b2.size
  have H2:=Lib.hid (And.intro hl (And.intro hg (And.intro hb2 (And.intro hx2 (And.intro hr2 (And.intro hcyc (And.intro hcm (And.intro hc2 ycell))))))))
  clear hl hg b2 hcyc hb2 hx2 hr2 hcm hc2 ycell hcy
  go_wp2_with fail
  clear d0 d1 d2 d3
  have hE0 : OwnE elE W2 W2.heap.size 60 (.slice none 0 0) []:=OwnE.nil _ _ _ _
  have HE0:=Lib.hid hE0
  clear hE0
  go_loopw [8,10,12,34,38,41] (fun y _ _ x _ _ wr => ∃ (k : Nat) (ea : Option Addr) (ec : Nat),k ≤ cyc.length∧x = .int .i64 k∧y = .slice ea (prs (cyc.take k)).length ec∧Hid (Below W2.heap.size W2 wr∧OwnE elE wr W2.heap.size 60 (.slice ea (prs (cyc.take k)).length ec) (prs (cyc.take k)))) (fun _ _ _ x _ _ _ => cyc.length - (intOf x).toNat)
  case atStart => exact ⟨0,none,0,by omega,rfl,rfl,Below.refl _ _,HE0.out⟩
  case round =>
   obtain ⟨k,ea,ec,hk,rfl,rfl,hh⟩:=hrel
   have hsz:=hh.out.1.size
   by_cases hlt : k < cyc.length
   ·obtain ⟨cl0,cl1⟩:=H2.out.2.2.2.2.2.2.2.2 k hlt
    rw [← hh.out.1.cell (p:=⟨blk ya,ofs ya + k,none⟩) cl1] at cl0
    have yi0:=yi .i64 (k : Int) (by omega) (by omega)
    rw [Int.toNat_natCast] at yi0
    obtain ⟨c,hcd⟩ : ∃ c,c = nth cyc k:=⟨_,rfl⟩
    have hcm:=nth_mem cyc k hlt
    have hrow:=H2.out.2.1.2.2 k hlt
    rw [← hcd] at hcm hrow
    have c2:=H2.out.2.2.2.2.2.2.2.1 c hcm
    have c8:=H2.out.2.2.2.2.2.2.1 c hcm
    obtain ⟨ra,rc,hrv,rm,ri,rcell,rblk⟩:=hrow.out1 sIntC
    obtain ⟨ta,tc,hcut,htl⟩:=Lst.cutRest sIntC hrow (k:=1) (by omega)
    have htl0:=htl
    obtain ⟨ta2,tc2,htv,tm,ti,tcell,tblk⟩:=htl.out1 sIntC
    rw [List.length_drop] at htv tm ti tcell tblk
    simp only [Value.slice.injEq] at htv
    obtain ⟨rfl, -,rfl⟩:=htv
    have ri0:=ri .i64 0 (by omega) (by omega)
    rw [show ((0 : Int)).toNat = 0 from rfl,Nat.add_zero] at ri0
    have hcut1:=hcut .i64
    rw [hrv] at cl0 hcut1
    rw [show ((1 : Nat) : Int) = 1 from rfl] at hcut1
    obtain ⟨cn,hcn⟩ : ∃ cn,cn = c.length:=⟨_,rfl⟩
    rw [← hcn] at cl0 hcut1 ti tm ri0 c2 c8
    obtain ⟨cm,hcm1⟩ : ∃ cm,cm = cn - 1:=⟨_,rfl⟩
    rw [← hcm1] at hcut1 ti tm
    have HK:=Lib.hid (And.intro hcd (And.intro hcn (And.intro hcm1 (And.intro tcell (And.intro rcell (And.intro rblk (And.intro tblk hh.out)))))))
    clear hcd hcn hcm1 tcell rcell rblk tblk hcm hrow htl htl0 hcut ri hrv cl1
    go_wp2_with fail
    obtain ⟨D,hD⟩ : ∃ D : Nat→List (Int × Int),D = fun j => prs (cyc.take k) ++ (tailP c).take j:=⟨_,rfl⟩
    have hD0 : D 0 = prs (cyc.take k):=by rw [hD]; simp
    have hDl : ∀ j,(D j).length ≤ 67200000:=fun j => by
     rw [hD]
     have h1:=prs_len (cyc:=cyc.take k) (m:=8192) fun d hd => H2.out.2.2.2.2.2.2.1 d (List.mem_of_mem_take hd)
     have h2 : (cyc.take k).length ≤ 8192:=Nat.le_trans (by simp; omega) hcl
     have h3 : (cyc.take k).length * 8192 ≤ 8192 * 8192:=Nat.mul_le_mul_right _ h2
     have h4 : ((tailP c).take j).length ≤ 8192:=by rw [List.length_take,tailP_len, ← HK.out.2.1]; omega
     rw [List.length_append]; omega
    have hDs : ∀ j,j < cm→D (j + 1) = D j ++ [(key c,nth c (j + 1))]:=fun j hj => by
     rw [hD]
     show _ ++ _ = _
     rw [tailP_snoc (by have:=HK.out.2.1; have:=HK.out.2.2.1; omega),List.append_assoc]
    have hDe : D cm = prs (cyc.take (k + 1)):=by
     have ht : (tailP c).take cm = tailP c:=List.take_of_length_le (by rw [tailP_len]; have:=HK.out.2.1; have:=HK.out.2.2.1; omega)
     rw [hD,prs_snoc hlt, ← HK.out.1]
     show _ ++ _ = _
     rw [ht]
    have HD:=Lib.hid (And.intro hDl (And.intro hDs hDe))
    rw [← hD0] at HK ⊢
    clear hD hD0 hDl hDs hDe
    go_loopw [8,12,41] (fun y _ x wr => ∃ (j : Nat) (ea : Option Addr) (ec : Nat),j ≤ cm∧x = .int .i64 j∧y = .slice ea (D j).length ec∧Hid (Below W2.heap.size W2 wr∧OwnE elE wr W2.heap.size 60 (.slice ea (D j).length ec) (D j))) (fun _ _ x _ => cm - (intOf x).toNat)
    case atStart => exact ⟨0,ea,ec,by omega,rfl,rfl,HK.out.2.2.2.2.2.2.2⟩
    case round =>
     obtain ⟨j,ea,ec,hj,rfl,rfl,hh⟩:=hrel
     by_cases hjt : j < cm
     ·have t0:=HK.out.2.2.2.1 j (by have:=HK.out.2.2.1; have:=HK.out.2.1; omega)
      have t1:=HK.out.2.2.2.2.2.2.1 j (by have:=HK.out.2.2.1; have:=HK.out.2.1; omega)
      have u0:=HK.out.2.2.2.2.1 0 (by have:=HK.out.2.1; omega)
      have u1:=HK.out.2.2.2.2.2.1 0 (by have:=HK.out.2.1; omega)
      rw [← hh.out.1.cell (p:=⟨blk ta,ofs ta + j,none⟩) t1] at t0
      rw [← hh.out.1.cell (p:=⟨blk ra,ofs ra + 0,none⟩) u1] at u0
      rw [Nat.add_zero] at u0
      have hnx : nth (c.drop 1) j = nth c (j + 1):=by rw [nth_drop,Nat.add_comm]
      rw [hnx] at t0
      have ti0:=ti .i64 (j : Int) (by omega) (by omega)
      rw [Int.toNat_natCast] at ti0
      have hds:=HD.out.2.1 j hjt
      have hdl:=HD.out.1 j
      rw [show nth c 0 = key c from rfl] at u0
      have hsz : W2.heap.size ≤ wr.heap.size:=hh.out.1.size
      have HS:=Lib.hid (And.intro hds hh.out)
      clear hds hh hnx t1 u1
      obtain ⟨a1,ha1⟩ : ∃ a,a = key c:=⟨_,rfl⟩
      obtain ⟨b1,hb1⟩ : ∃ a,a = nth c (j + 1):=⟨_,rfl⟩
      rw [← ha1] at u0 HS
      rw [← hb1] at t0 HS
      clear ha1 hb1
      go_wp2_with (at_builtin; refine wp_appendE (E:=elE) sEdge rfl rfl _ _ rfl (v:=.slice ea (D j).length ec) (l:=D j) (base:=W2.heap.size) rfl wr.heap.size rfl (OwnE.grown HS.out.2.2 (grownBy_alloc _ (.cells #[.int .i64 a1,.int .i64 b1] 60)) (by cases (Value.slice ea (D j).length ec).ownBlock <;> simp)) (a1,b1) (cells_new (cs:=[.int .i64 a1,.int .i64 b1]) (by simp)) (by omega) (by omega) (by simp; omega) ?_; intro v' w3 hown hgr hat; obtain ⟨s9,c9,rfl⟩:=hown.shape (n:=(D j).length + 1) (by simp); have HR:=Lib.hid (And.intro ((HS.out.2.1.alloc hsz (.cells #[.int .i64 a1,.int .i64 b1] 60)).grown hgr (by simp; omega) (fun q hq => (OwnE.lt HS.out.2.2 q hq).1)) hown); clear hown hgr hat)
      go_wp2_with fail
      go_roundw
      case rel => exact ⟨j + 1,s9,c9,by omega,by go_num,by rw [HS.out.1]; simp,by
       rw [HS.out.1,List.length_append]
       exact HR.out⟩
      case measure => simp [intOf]; omega
     ·obtain rfl : j = cm:=by omega
      have HE:=Lib.hid hh.out
      clear hh
      go_wp2_with fail
      go_roundw
      case rel => exact ⟨k + 1,ea,ec,by omega,by go_num,by rw [← HD.out.2.2],by rw [← HD.out.2.2]; exact HE.out⟩
      case measure => simp [intOf]; omega
   ·obtain rfl : k = cyc.length:=by omega
    rw [List.take_length] at hh ⊢
    have hlp:=prs_len H2.out.2.2.2.2.2.2.1
    have hlp2 : cyc.length * 8192 ≤ 8192 * 8192:=Nat.mul_le_mul_right _ hcl
    obtain ⟨ps,hps⟩ : ∃ ps,ps = prs cyc:=⟨_,rfl⟩
    rw [← hps] at hh hlp ⊢
    have hbx:=H2.out.2.2.2.1.grown (grownBy_below hh.out.1) (by simp)
    obtain ⟨d0,d1,d2,d3⟩:=hbx
    have hps1 : ∀ p ∈ ps, ∃ v : Nat,v < s.vars.toNat∧p = (nth l v,(v : Int))∧nth l v ≠ (v : Int):=fun p hp => by
     rw [hps,H2.out.2.2.2.2.2.1] at hp; exact mem_prs H2.out.1 hp
    have hof : Prt.ofL s.vars.toNat ps = l:=Prt.ofL_heads H2.out.1 hps1 fun v hv hne => by
     rw [hps,H2.out.2.2.2.2.2.1]; exact prs_cov H2.out.1 hv hne
    have hok : Prt.ofOk s.vars ps = true:=by
     have hv0:=HC.out.2.vars
     have hv8:=(colC_ok HC.out.1).2
     unfold Prt.ofOk
     rw [Bool.and_eq_true,decide_eq_true_eq,List.all_eq_true]
     refine ⟨⟨hv0,hv8⟩,fun p hp => ?_⟩
     obtain ⟨v,hvn,rfl, -⟩:=hps1 p hp
     have:=H2.out.1.le hvn
     unfold Prt.okB
     rw [Bool.and_eq_true,Prt.memB_iff,Prt.memB_iff]
     exact ⟨⟨this.1,this.2.2⟩,by dsimp only; omega,by dsimp only; omega⟩
    have HO:=Lib.hid (And.intro hof (And.intro hok hh.out))
    clear hps hps1 hof hok hh hlp hlp2
    go_wp2_with fail
    refine (Prt.Of_any s.vars _ ps wr (own_pairs HO.out.2.2.2)).mono ?_
    rintro e W3 hpost
    have h3 : ∃ v,e = .returned (.tuple #[v,.int .i64 0])∧OwnI W3 wr.heap.size 3 v l∧Below wr.heap.size wr W3:=by
     rcases hpost with ⟨h1, -⟩ | ⟨-,v,h1,h2,h3⟩
     ·rw [HO.out.2.1] at h1; cases h1
     ·rw [HO.out.1] at h2; exact ⟨v,h1,h2,h3⟩
    clear hpost
    obtain ⟨rv,rfl,hrv,b3⟩:=h3
    obtain ⟨ra,rc,rfl⟩:=hrv.shape H2.out.1.1
    have b23:=HO.out.2.2.1.trans (b3.mono HO.out.2.2.1.size)
    have hb3:=H2.out.2.2.1.trans (b23.mono H2.out.2.2.1.size)
    obtain ⟨d0,d1,d2,d3⟩:=H2.out.2.2.2.1.grown (grownBy_below b23) (by simp)
    have hx3:=H2.out.2.2.2.1.grown (grownBy_below b23) (by simp)
    have hr3:=(b23.block br lbr2).trans H2.out.2.2.2.2.1
    have lbr3 : br < W3.heap.size:=Nat.lt_of_lt_of_le lbr2 b23.size
    have lbp3 : bp < W3.heap.size:=World.block_lt_of_cell? W3 _ d0
    have nbp3 : bp ≠ W3.heap.size:=by omega
    have H3:=Lib.hid (And.intro hrv (And.intro hb3 (And.intro hx3 hr3)))
    have HO1:=Lib.hid (show br < wr.heap.size from Nat.lt_of_lt_of_le lbr2 HO.out.2.2.1.size)
    clear hrv b3 b23 hb3 hx3 hr3 hsz HO
    have h0:=SlM.new s W3 24
    have hA:=grownBy_alloc W3 (.cells #[.int .i64 s.vars,.int .i64 s.sites,.int .i64 s.fields,.slice none 0 0] 24)
    have hA2:=H3.out.2.2.1.grown hA (by simp)
    have HA:=Lib.hid (And.intro h0 (And.intro hA hA2))
    clear h0 hA hA2
    go_wp2_with fail
    clear d0 d1 d2 d3 nbp3
    refine wp_gen (fun Z => SlM s W3.heap.size none 0 [] [] Z∧W3.grownBy Z none∧BoxS Z bp s (.slice ca s.cons.length cc)) HA.out ?_
    intro Z0 hZ0
    obtain ⟨bo,hbo⟩ : ∃ bo,bo = W3.heap.size:=⟨_,rfl⟩
    rw [← hbo] at hZ0 ⊢
    have HZ0:=Lib.hid (And.intro hZ0 hbo)
    clear hZ0 hbo HA
    have hN : s.vars.toNat ≤ 8192:=by have:=(colC_ok HC.out.1).2; omega
    go_loopw [16,76] (fun _ x wr => ∃ (k : Nat) (oa : Option Addr) (oc : Nat) (rs : List RC),k ≤ s.cons.length∧x = .int .i64 k∧Hid (SlM s bo oa oc rs (redL l (s.cons.take k)) wr∧Below bo W3 wr)) (fun _ x _ => s.cons.length - (intOf x).toNat)
    case atStart => exact ⟨0,none,0, [],by omega,rfl,HZ0.out.1.1,by rw [HZ0.out.2]; exact ⟨HZ0.out.1.2.1.os,HZ0.out.1.2.1.tape,HZ0.out.1.2.1.output,HZ0.out.1.2.1.size,fun k hk => HZ0.out.1.2.1.block k hk (by simp)⟩⟩
    case round =>
     obtain ⟨k,oa,oc,rs,hk,rfl,hh⟩:=hrel
     have hbow : bo < wr.heap.size:=World.block_lt_of_cell? wr _ hh.out.1.o0
     have hb4 : Below W.heap.size W wr:=H3.out.2.1.trans (hh.out.2.mono (by have:=H3.out.2.1.size; rw [HZ0.out.2]; exact this))
     by_cases hlt : k < s.cons.length
     ·obtain ⟨sa,sn,sc,c0,c1,c2,c3,c4,hset,hbl⟩:=H0.out.2.1 k hlt
      rw [← hb4.cell (p:=⟨blk ca,ofs ca + k * 5,none⟩) hbl] at c0
      rw [← hb4.cell (p:=⟨blk ca,ofs ca + k * 5 + 1,none⟩) hbl] at c1
      rw [← hb4.cell (p:=⟨blk ca,ofs ca + k * 5 + 2,none⟩) hbl] at c2
      rw [← hb4.cell (p:=⟨blk ca,ofs ca + k * 5 + 3,none⟩) hbl] at c3
      rw [← hb4.cell (p:=⟨blk ca,ofs ca + k * 5 + 4,none⟩) hbl] at c4
      have hset4:=hset.below hb4
      obtain ⟨c,hcd⟩ : ∃ c,c = nth s.cons k:=⟨_,rfl⟩
      have hvc:=HC.out.2.cons _ (nth_mem _ _ hlt)
      rw [← hcd] at c0 c1 c2 c3 hset4 hvc
      obtain ⟨bn,hbn⟩ : ∃ bn : Nat,c.b = (bn : Int):=⟨c.b.toNat,by have:=hvc.b; omega⟩
      have hbnl : bn < s.vars.toNat:=by have:=hvc.b; omega
      obtain ⟨an,han⟩ : ∃ an : Nat,c.a = (an : Int):=⟨c.a.toNat,by have:=hvc.a.1; omega⟩
      have hanl : c.k ≠ 1→an < s.vars.toNat:=fun h1 => by have:=hvc.a.2; rw [if_neg h1] at this; omega
      have hsl : c.s.length ≤ 1000000:=by
       have hp : (c.s.map Int.toNat).Pairwise (· < ·):=by
        rw [List.pairwise_map]
        exact hvc.asc.imp_of_mem fun {a b} ha hb hab => by have h1:=hvc.s a ha; have h2:=hvc.s b hb; omega
       have:=sorted_len' (n:=1024) hp fun x hx => by obtain ⟨y,hy,rfl⟩:=List.mem_map.1 hx; have:=hvc.s y hy; have:=(chkG_ok (colC_ok HC.out.1).1).2.2.1; omega
       rw [List.length_map] at this; omega
      have hred : redC l c = ⟨c.k,if c.k = 1 then c.a else nth l an,nth l bn,c.f,c.s⟩:=by
       unfold redC
       rw [han,hbn]
       simp
      have hrl0:=Nat.lt_of_lt_of_le hbow (Nat.le_refl _)
      have hbelow : ∀ Y,wr.grownBy Y none→Below W.heap.size W Y:=fun Y hY => hb4.trans ⟨hY.os,hY.tape,hY.output,hY.size,fun q hq => hY.block q (by have:=hb4.size; omega) (by simp)⟩
      have hrep : ∀ Y,wr.grownBy Y none→∀ x,x < s.vars.toNat→Y.cell? ⟨blk ra,ofs ra + x,none⟩ = some (.int .i64 (nth l x)):=fun Y hY x hx => by
       have h1:=(own_int H3.out.1 H2.out.1.1 hx).1
       have h2 : blk ra < bo:=by rw [HZ0.out.2]; exact World.block_lt_of_cell? W3 _ h1
       exact hY.cell ((hh.out.2.cell (p:=⟨blk ra,ofs ra + x,none⟩) h2).trans h1) (by simp)
      have hlbn:=H2.out.1.le hbnl
      have hixb:=(own_int H3.out.1 H2.out.1.1 hbnl).2.1
      have hixa : c.k ≠ 1→∀ Y,(Instr.indexAt 32 (.slice ra s.vars.toNat rc) (.int .i64 (an : Int))).run Tryz.prog Y = .ok (.pointer (some ⟨blk ra,ofs ra + an,none⟩)) Y:=fun h1 => (own_int H3.out.1 H2.out.1.1 (hanl h1)).2.1
      obtain ⟨b1,hb1⟩ : ∃ b1,b1 = nth l bn:=⟨_,rfl⟩
      obtain ⟨a1,ha1⟩ : ∃ a1,a1 = nth l an:=⟨_,rfl⟩
      rw [← ha1, ← hb1] at hred
      have hrb : ∀ Y,wr.grownBy Y none→Y.cell? ⟨blk ra,ofs ra + bn,none⟩ = some (.int .i64 b1):=fun Y hY => by rw [hb1]; exact hrep Y hY bn hbnl
      have hra : c.k ≠ 1→∀ Y,wr.grownBy Y none→Y.cell? ⟨blk ra,ofs ra + an,none⟩ = some (.int .i64 a1):=fun h1 Y hY => by rw [ha1]; exact hrep Y hY an (hanl h1)
      clear hrep hlbn ha1 hb1 hvc hanl hrl0
      rw [hbn] at c2
      rw [han] at c1 hred
      obtain ⟨k0,a0,b0,f0,s0⟩:=c
      dsimp only at *
      clear hbn han
      have hnew:=BoxR.new wr k0 (an : Int) (bn : Int) f0 (.slice sa sn sc) 48
      obtain ⟨bc,hbc⟩ : ∃ bc,bc = wr.heap.size:=⟨_,rfl⟩
      have hbcw : wr.heap.size ≤ bc:=by omega
      have HI:=Lib.hid (And.intro (fun Y (hY : Below W.heap.size W Y) => (show Ints Y (.slice sa sn sc) s0 by have h9:=hset.below hY; rw [← hcd] at h9; exact h9)) (And.intro hsl (And.intro hcd (And.intro hh.out (And.intro hbelow (And.intro hrb hra))))))
      have HRD:=Lib.hid hred
      clear hset hset4 hsl hcd hh hbelow hrb hra hred
      go_upto_region 24 with fail
      rw [← hbc] at hnew ⊢
      have hga:=grownBy_alloc wr (.cells #[.int .i64 k0,.int .i64 (an : Int),.int .i64 (bn : Int),.int .i64 f0,.slice sa sn sc] 48)
      refine wp_gen (fun Z => BoxR Z bc k0 (an : Int) (bn : Int) f0 (.slice sa sn sc)∧wr.grownBy Z none) ⟨hnew,hga⟩ ?_
      intro Z hZ
      have HZ:=Lib.hid hZ
      clear hnew hga c0 c1 c2 c3 c4 hbc
      obtain ⟨z0,z1,z2,z3,z4,zf⟩:=hZ.1
      have zf1:=zf 1
      have zf2:=zf 2
      have rb:=HI.out.2.2.2.2.2.1 Z HZ.out.2
      have gB : wr.grownBy (Z.setCell ⟨bc,2,none⟩ (.int .i64 b1)) none:=grownBy_fresh (grownBy_trans (grownBy_widen HZ.out.2) (grownBy_setCell Z ⟨bc,2,none⟩ (.int .i64 b1))) hbcw
      have hcl : bn < l.length:=by rw [H2.out.1.1]; exact hbnl
      by_cases hk1 : k0 = 1
      ·subst hk1
       have hY0:=And.intro (HZ.out.1.setB b1) gB
       have HY0:=Lib.hid hY0
       have hkp : redB (redC l (nth s.cons k)) = true∧redC l (nth s.cons k) = ⟨1,(an : Int),b1,f0,s0⟩:=by
        rw [← HI.out.2.2.1,HRD.out]
        exact ⟨by simp [redB],by simp⟩
       have HKP:=Lib.hid hkp
       clear hY0 hkp gB hZ zf
       go_upto_region 27 with fail
       refine wp_gen (fun Y => BoxR Y bc 1 (an : Int) b1 f0 (.slice sa sn sc)∧wr.grownBy Y none) HY0.out ?_
       intro Y hY
       have HY:=Lib.hid hY
       obtain ⟨x0,x1,x2,x3,x4, -⟩:=hY.1
       clear hY HY0 z0 z1 z2 z3 z4 zf1 zf2 rb
       go_wp2_with fail
       refine (CloneI_any _ s0 _ (HI.out.1 Y (HI.out.2.2.2.2.1 Y HY.out.2)) HI.out.2.1).mono ?_
       rintro e Z2 ⟨a2,c2,rfl,o2,q2⟩
       have g2:=grownBy_below q2
       have hbx2:=HY.out.1.grown g2 (by simp)
       have lbY:=HY.out.1.lt
       have lbc : bc < Z2.heap.size:=hbx2.lt
       have gs3:=grownBy_setCell Z2 ⟨bc,4,none⟩ (.slice a2 s0.length c2)
       have gZ3 : wr.grownBy (Z2.setCell ⟨bc,4,none⟩ (.slice a2 s0.length c2)) none:=grownBy_fresh (grownBy_trans (grownBy_widen (grownBy_trans HY.out.2 g2)) gs3) hbcw
       obtain ⟨-, -, -, -,x4,fz⟩:=id hbx2
       have fz4:=fz 4
       obtain ⟨y0,y1,y2,y3,y4, -⟩:=hbx2.setS (.slice a2 s0.length c2)
       have hM3:=HI.out.2.2.2.1.1.grown gZ3 (by simp)
       have hB3:=HI.out.2.2.2.1.2.grown gZ3 (by omega) (by simp)
       have ho3 : OwnI (Z2.setCell ⟨bc,4,none⟩ (.slice a2 s0.length c2)) (bo + 1) 3 (.slice a2 s0.length c2) s0:=by
        refine (o2.mono (by omega)).grown gs3 (.inr fun e => ?_)
        have:=(o2.lt _ e).1
        have h2 : bc = (⟨bc,4,none⟩ : Addr).block:=rfl
        omega
       have hn3 : ∀ m,(Value.slice a2 s0.length c2).ownBlock = some m→(Value.slice oa rs.length oc).ownBlock ≠ some m:=fun m hm e => by
        have:=(o2.lt m hm).1
        have:=(OwnE.lt HI.out.2.2.2.1.1.own m e).2
        omega
       have oc3:=hM3.o3
       have hrl : rs.length ≤ 1000:=by have:=hM3.len; rw [this]; exact Nat.le_trans (redL_len _ _) (by simp; omega)
       have H3':=Lib.hid (And.intro hM3 (And.intro hB3 (And.intro ho3 hn3)))
       have lz3 : bo + 1 ≤ Z2.heap.size:=by omega
       clear hM3 hB3 ho3 hn3 gZ3 gs3 o2 q2 g2 hbx2 fz
       go_wp2_with (at_builtin; refine wp_appendE (E:=elC) sCon rfl rfl _ _ rfl (v:=.slice oa rs.length oc) (l:=rs) (base:=bo + 1) rfl Z2.heap.size rfl (OwnE.grown H3'.out.1.own (grownBy_alloc _ _) (by cases (Value.slice oa rs.length oc).ownBlock <;> simp)) (⟨1,(an : Int),b1,f0,a2,s0.length,c2⟩ : RC) (cells_new (W:=Z2.setCell ⟨bc,4,none⟩ (.slice a2 s0.length c2)) (cs:=[.int .i64 (1),.int .i64 ((an : Int)),.int .i64 b1,.int .i64 f0,.slice a2 s0.length c2]) (t:=48) (by simp)) (by omega) (by omega) (by simp; omega) ?_; intro v9 W9 o9 g9 l9; obtain ⟨s9,c9,rfl⟩:=OwnE.shape o9 (n:=rs.length + 1) (by simp); obtain ⟨t1,t2,hP⟩:=H3'.out.1.push (c:=(⟨1,(an : Int),b1,f0,s0⟩ : R)) (x:=(⟨1,(an : Int),b1,f0,a2,s0.length,c2⟩ : RC)) ⟨rfl,rfl,rfl,rfl⟩ H3'.out.2.2.1 H3'.out.2.2.2 (grownBy_alloc _ _) o9 g9 l9; have HP:=Lib.hid (And.intro hP (And.intro o9 g9)); clear hP o9 g9 l9)
       go_roundw
       case rel => exact ⟨k + 1,s9,c9,_,by omega,by go_num,by rw [redL_yes hlt HKP.out.1,HKP.out.2]; exact HP.out.1,by
        have b1':=H3'.out.2.1.alloc (by simp; omega) (.cells #[.int .i64 (1),.int .i64 ((an : Int)),.int .i64 b1,.int .i64 f0,.slice a2 s0.length c2] 48)
        have b2':=b1'.grown HP.out.2.2 (by simp; omega) (fun m hm => by have:=(OwnE.lt H3'.out.1.own m hm).1; omega)
        exact b2'.setCell (show bo ≤ (⟨bo,3,none⟩ : Addr).block from Nat.le_refl _) _⟩
       case measure => simp [intOf]; omega
      ·have hkz : (k0 != 1) = true:=by simpa using hk1
       have ra0:=HI.out.2.2.2.2.2.2 hk1 Z HZ.out.2
       have ia0:=hixa hk1
       have gA : wr.grownBy (Z.setCell ⟨bc,1,none⟩ (.int .i64 a1)) none:=grownBy_fresh (grownBy_trans (grownBy_widen HZ.out.2) (grownBy_setCell Z ⟨bc,1,none⟩ (.int .i64 a1))) hbcw
       have HA:=Lib.hid (And.intro (HZ.out.1.setA a1) gA)
       clear gA gB hZ zf rb hixa
       go_upto_region 26 with fail
       refine wp_gen (fun Y => BoxR Y bc k0 a1 (bn : Int) f0 (.slice sa sn sc)∧wr.grownBy Y none) HA.out ?_
       intro Z1 hZ1
       have HZ1:=Lib.hid hZ1
       clear hZ1 HA z0 z1 z2 z3 z4 zf1 zf2 ra0 ia0 hkz
       obtain ⟨z0,z1,z2,z3,z4,zf⟩:=HZ1.out.1
       have zf2:=zf 2
       have rb:=HI.out.2.2.2.2.2.1 Z1 HZ1.out.2
       have gB : wr.grownBy (Z1.setCell ⟨bc,2,none⟩ (.int .i64 b1)) none:=grownBy_fresh (grownBy_trans (grownBy_widen HZ1.out.2) (grownBy_setCell Z1 ⟨bc,2,none⟩ (.int .i64 b1))) hbcw
       have HY0:=Lib.hid (And.intro (HZ1.out.1.setB b1) gB)
       have hkp : redC l (nth s.cons k) = ⟨k0,a1,b1,f0,s0⟩:=by
        rw [← HI.out.2.2.1,HRD.out]
        simp [hk1]
       have HKP0:=Lib.hid hkp
       clear hkp gB zf
       go_upto_region 27 with fail
       refine wp_gen (fun Y => BoxR Y bc k0 a1 b1 f0 (.slice sa sn sc)∧wr.grownBy Y none) HY0.out ?_
       intro Y hY
       have HY:=Lib.hid hY
       obtain ⟨x0,x1,x2,x3,x4, -⟩:=hY.1
       clear hY HY0 z0 z1 z2 z3 z4 zf2 rb
       by_cases hk2 : k0 = 2
       ·subst hk2
        by_cases hab : a1 = b1
        ·have hz : (a1 == b1) = true:=by simpa using hab
         have hno : redB (redC l (nth s.cons k)) = false:=by rw [HKP0.out]; simp [redB,hab]
         have HN:=Lib.hid (redL_no hlt hno)
         clear hab hno
         go_wp2_with fail
         go_roundw
         case rel => exact ⟨k + 1,oa,oc,rs,by omega,by go_num,by rw [HN.out]; exact HI.out.2.2.2.1.1.grown HY.out.2 (by simp),HI.out.2.2.2.1.2.grown HY.out.2 (by omega) (by simp)⟩
         case measure => simp [intOf]; omega
        ·have hz : (a1 == b1) = false:=by simpa using hab
         have HKP:=Lib.hid (show redB (redC l (nth s.cons k)) = true∧redC l (nth s.cons k) = ⟨2,a1,b1,f0,s0⟩ from ⟨by rw [HKP0.out]; simp [redB,hab],HKP0.out⟩)
         clear hab
         go_wp2_with fail
         refine (CloneI_any _ s0 _ (HI.out.1 Y (HI.out.2.2.2.2.1 Y HY.out.2)) HI.out.2.1).mono ?_
         rintro e Z2 ⟨a2,c2,rfl,o2,q2⟩
         have g2:=grownBy_below q2
         have hbx2:=HY.out.1.grown g2 (by simp)
         have lbY:=HY.out.1.lt
         have lbc : bc < Z2.heap.size:=hbx2.lt
         have gs3:=grownBy_setCell Z2 ⟨bc,4,none⟩ (.slice a2 s0.length c2)
         have gZ3 : wr.grownBy (Z2.setCell ⟨bc,4,none⟩ (.slice a2 s0.length c2)) none:=grownBy_fresh (grownBy_trans (grownBy_widen (grownBy_trans HY.out.2 g2)) gs3) hbcw
         obtain ⟨-, -, -, -,x4,fz⟩:=id hbx2
         have fz4:=fz 4
         obtain ⟨y0,y1,y2,y3,y4, -⟩:=hbx2.setS (.slice a2 s0.length c2)
         have hM3:=HI.out.2.2.2.1.1.grown gZ3 (by simp)
         have hB3:=HI.out.2.2.2.1.2.grown gZ3 (by omega) (by simp)
         have ho3 : OwnI (Z2.setCell ⟨bc,4,none⟩ (.slice a2 s0.length c2)) (bo + 1) 3 (.slice a2 s0.length c2) s0:=by
          refine (o2.mono (by omega)).grown gs3 (.inr fun e => ?_)
          have:=(o2.lt _ e).1
          have h2 : bc = (⟨bc,4,none⟩ : Addr).block:=rfl
          omega
         have hn3 : ∀ m,(Value.slice a2 s0.length c2).ownBlock = some m→(Value.slice oa rs.length oc).ownBlock ≠ some m:=fun m hm e => by
          have:=(o2.lt m hm).1
          have:=(OwnE.lt HI.out.2.2.2.1.1.own m e).2
          omega
         have oc3:=hM3.o3
         have hrl : rs.length ≤ 1000:=by have:=hM3.len; rw [this]; exact Nat.le_trans (redL_len _ _) (by simp; omega)
         have H3':=Lib.hid (And.intro hM3 (And.intro hB3 (And.intro ho3 hn3)))
         have lz3 : bo + 1 ≤ Z2.heap.size:=by omega
         clear hM3 hB3 ho3 hn3 gZ3 gs3 o2 q2 g2 hbx2 fz
         go_wp2_with (at_builtin; refine wp_appendE (E:=elC) sCon rfl rfl _ _ rfl (v:=.slice oa rs.length oc) (l:=rs) (base:=bo + 1) rfl Z2.heap.size rfl (OwnE.grown H3'.out.1.own (grownBy_alloc _ _) (by cases (Value.slice oa rs.length oc).ownBlock <;> simp)) (⟨2,a1,b1,f0,a2,s0.length,c2⟩ : RC) (cells_new (W:=Z2.setCell ⟨bc,4,none⟩ (.slice a2 s0.length c2)) (cs:=[.int .i64 (2),.int .i64 (a1),.int .i64 b1,.int .i64 f0,.slice a2 s0.length c2]) (t:=48) (by simp)) (by omega) (by omega) (by simp; omega) ?_; intro v9 W9 o9 g9 l9; obtain ⟨s9,c9,rfl⟩:=OwnE.shape o9 (n:=rs.length + 1) (by simp); obtain ⟨t1,t2,hP⟩:=H3'.out.1.push (c:=(⟨2,a1,b1,f0,s0⟩ : R)) (x:=(⟨2,a1,b1,f0,a2,s0.length,c2⟩ : RC)) ⟨rfl,rfl,rfl,rfl⟩ H3'.out.2.2.1 H3'.out.2.2.2 (grownBy_alloc _ _) o9 g9 l9; have HP:=Lib.hid (And.intro hP (And.intro o9 g9)); clear hP o9 g9 l9)
         go_roundw
         case rel => exact ⟨k + 1,s9,c9,_,by omega,by go_num,by rw [redL_yes hlt HKP.out.1,HKP.out.2]; exact HP.out.1,by
          have b1':=H3'.out.2.1.alloc (by simp; omega) (.cells #[.int .i64 (2),.int .i64 (a1),.int .i64 b1,.int .i64 f0,.slice a2 s0.length c2] 48)
          have b2':=b1'.grown HP.out.2.2 (by simp; omega) (fun m hm => by have:=(OwnE.lt H3'.out.1.own m hm).1; omega)
          exact b2'.setCell (show bo ≤ (⟨bo,3,none⟩ : Addr).block from Nat.le_refl _) _⟩
         case measure => simp [intOf]; omega
       ·have hz : (k0 == 2) = false:=by simpa using hk2
        have HKP:=Lib.hid (show redB (redC l (nth s.cons k)) = true∧redC l (nth s.cons k) = ⟨k0,a1,b1,f0,s0⟩ from ⟨by rw [HKP0.out]; simp [redB,hk2],HKP0.out⟩)
        clear hk1 hk2
        go_wp2_with fail
        refine (CloneI_any _ s0 _ (HI.out.1 Y (HI.out.2.2.2.2.1 Y HY.out.2)) HI.out.2.1).mono ?_
        rintro e Z2 ⟨a2,c2,rfl,o2,q2⟩
        have g2:=grownBy_below q2
        have hbx2:=HY.out.1.grown g2 (by simp)
        have lbY:=HY.out.1.lt
        have lbc : bc < Z2.heap.size:=hbx2.lt
        have gs3:=grownBy_setCell Z2 ⟨bc,4,none⟩ (.slice a2 s0.length c2)
        have gZ3 : wr.grownBy (Z2.setCell ⟨bc,4,none⟩ (.slice a2 s0.length c2)) none:=grownBy_fresh (grownBy_trans (grownBy_widen (grownBy_trans HY.out.2 g2)) gs3) hbcw
        obtain ⟨-, -, -, -,x4,fz⟩:=id hbx2
        have fz4:=fz 4
        obtain ⟨y0,y1,y2,y3,y4, -⟩:=hbx2.setS (.slice a2 s0.length c2)
        have hM3:=HI.out.2.2.2.1.1.grown gZ3 (by simp)
        have hB3:=HI.out.2.2.2.1.2.grown gZ3 (by omega) (by simp)
        have ho3 : OwnI (Z2.setCell ⟨bc,4,none⟩ (.slice a2 s0.length c2)) (bo + 1) 3 (.slice a2 s0.length c2) s0:=by
         refine (o2.mono (by omega)).grown gs3 (.inr fun e => ?_)
         have:=(o2.lt _ e).1
         have h2 : bc = (⟨bc,4,none⟩ : Addr).block:=rfl
         omega
        have hn3 : ∀ m,(Value.slice a2 s0.length c2).ownBlock = some m→(Value.slice oa rs.length oc).ownBlock ≠ some m:=fun m hm e => by
         have:=(o2.lt m hm).1
         have:=(OwnE.lt HI.out.2.2.2.1.1.own m e).2
         omega
        have oc3:=hM3.o3
        have hrl : rs.length ≤ 1000:=by have:=hM3.len; rw [this]; exact Nat.le_trans (redL_len _ _) (by simp; omega)
        have H3':=Lib.hid (And.intro hM3 (And.intro hB3 (And.intro ho3 hn3)))
        have lz3 : bo + 1 ≤ Z2.heap.size:=by omega
        clear hM3 hB3 ho3 hn3 gZ3 gs3 o2 q2 g2 hbx2 fz
        go_wp2_with (at_builtin; refine wp_appendE (E:=elC) sCon rfl rfl _ _ rfl (v:=.slice oa rs.length oc) (l:=rs) (base:=bo + 1) rfl Z2.heap.size rfl (OwnE.grown H3'.out.1.own (grownBy_alloc _ _) (by cases (Value.slice oa rs.length oc).ownBlock <;> simp)) (⟨k0,a1,b1,f0,a2,s0.length,c2⟩ : RC) (cells_new (W:=Z2.setCell ⟨bc,4,none⟩ (.slice a2 s0.length c2)) (cs:=[.int .i64 (k0),.int .i64 (a1),.int .i64 b1,.int .i64 f0,.slice a2 s0.length c2]) (t:=48) (by simp)) (by omega) (by omega) (by simp; omega) ?_; intro v9 W9 o9 g9 l9; obtain ⟨s9,c9,rfl⟩:=OwnE.shape o9 (n:=rs.length + 1) (by simp); obtain ⟨t1,t2,hP⟩:=H3'.out.1.push (c:=(⟨k0,a1,b1,f0,s0⟩ : R)) (x:=(⟨k0,a1,b1,f0,a2,s0.length,c2⟩ : RC)) ⟨rfl,rfl,rfl,rfl⟩ H3'.out.2.2.1 H3'.out.2.2.2 (grownBy_alloc _ _) o9 g9 l9; have HP:=Lib.hid (And.intro hP (And.intro o9 g9)); clear hP o9 g9 l9)
        go_roundw
        case rel => exact ⟨k + 1,s9,c9,_,by omega,by go_num,by rw [redL_yes hlt HKP.out.1,HKP.out.2]; exact HP.out.1,by
         have b1':=H3'.out.2.1.alloc (by simp; omega) (.cells #[.int .i64 (k0),.int .i64 (a1),.int .i64 b1,.int .i64 f0,.slice a2 s0.length c2] 48)
         have b2':=b1'.grown HP.out.2.2 (by simp; omega) (fun m hm => by have:=(OwnE.lt H3'.out.1.own m hm).1; omega)
         exact b2'.setCell (show bo ≤ (⟨bo,3,none⟩ : Addr).block from Nat.le_refl _) _⟩
        case measure => simp [intOf]; omega
     ·obtain rfl : k = s.cons.length:=by omega
      rw [List.take_length] at hh
      have hM:=hh.out.1
      have hl:=hM.len
      obtain ⟨o0,o1,o2,o3, -⟩:=id hM
      rw [hl] at o3
      have hrb : wr.heap[br]? = some (.cells #[.int .i64 0,.int .i64 0,.int .i64 0,.slice none 0 0] 24):=(hh.out.2.block br (by rw [HZ0.out.2]; exact lbr3)).trans H3.out.2.2.2
      have w0 : wr.cell? ⟨br,0,none⟩ = some (.int .i64 0):=by simp [World.cell?,hrb]
      have w1 : wr.cell? ⟨br,1,none⟩ = some (.int .i64 0):=by simp [World.cell?,hrb]
      have w2 : wr.cell? ⟨br,2,none⟩ = some (.int .i64 0):=by simp [World.cell?,hrb]
      have w3 : wr.cell? ⟨br,3,none⟩ = some (.slice none 0 0):=by simp [World.cell?,hrb]
      have w4 : ∀ j,wr.frozen? ⟨br,j,none⟩ = false:=fun j => by simp [World.frozen?,hrb]
      have w5:=w4 0
      have w6:=w4 1
      have w7:=w4 2
      have w8:=w4 3
      obtain ⟨N,hNl⟩ : ∃ N,N = (redL l s.cons).length:=⟨_,rfl⟩
      rw [← hNl] at o3
      have HM:=Lib.hid (And.intro hM (And.intro hh.out.2 (And.intro hNl hb4)))
      clear hM hl hrb w4 hh hNl hlt hk hb4
      go_wp2_with fail
      (try simp only [Exit.inBlock,Exit.then])
      refine bodyPost_ret (v:=.tuple #[.agg #[.int .i64 s.vars,.int .i64 s.sites,.int .i64 s.fields,.slice oa N oc],.slice ra s.vars.toNat rc,.int .i64 0]) (by rw [results_cell3 rfl]; go_simp; try rfl) rfl ?_
      have gf:=grownBy_trans (grownBy_trans (grownBy_trans (grownBy_setCell wr ⟨br,0,none⟩ (.int .i64 s.vars)) (grownBy_setCell _ ⟨br,1,none⟩ (.int .i64 s.sites))) (grownBy_setCell _ ⟨br,2,none⟩ (.int .i64 s.fields))) (grownBy_setCell _ ⟨br,3,none⟩ (.slice oa N oc))
      have hbr:=H1.out.2.2.2.2
      have hbp:=H1.out.2.2.2.1
      refine .inr ⟨HC.out.1,l,oa,oc,.slice ra s.vars.toNat rc,by rw [← HM.out.2.2.1]; rfl,H2.out.1, ?_, ?_, ?_⟩
      ·have h9:=(HM.out.1.grown gf (fun m e => by simp at e; subst e; exact .inr (by have:=HZ0.out.2; omega))).cons
       exact h9
      ·have h8:=H3.out.1.lst
       have h9 : OwnI wr _ 3 (.slice ra s.vars.toNat rc) l:=H3.out.1.grown ⟨HM.out.2.1.os,HM.out.2.1.tape,HM.out.2.1.output,HM.out.2.1.size,fun q hq hn => HM.out.2.1.block q (by rw [HZ0.out.2]; exact hq)⟩ (row:=none) (by cases (Value.slice ra s.vars.toNat rc).ownBlock <;> simp)
       refine (h9.grown gf (.inr fun e => ?_)).lst
       have h7:=(H3.out.1.lt _ e).1
       have:=HO1.out
       simp at h7; omega
      ·have hle : W.heap.size ≤ br:=by omega
       exact (((HM.out.2.2.2.setCell (show W.heap.size ≤ (⟨br,0,none⟩ : Addr).block from hle) _).setCell (show W.heap.size ≤ (⟨br,1,none⟩ : Addr).block from hle) _).setCell (show W.heap.size ≤ (⟨br,2,none⟩ : Addr).block from hle) _).setCell (show W.heap.size ≤ (⟨br,3,none⟩ : Addr).block from hle) _
 ·have x0 : (colC s != 0) = true:=by simpa using h0
  have HC:=Lib.hid h0
  clear h0
  generalize hcd : colC s = code at *
  have HCD:=Lib.hid hcd
  clear hcd
  go_wp2_with fail
  (try simp only [Exit.inBlock,Exit.then])
  refine bodyPost_ret (v:=.tuple #[.agg #[.int .i64 0,.int .i64 0,.int .i64 0,.slice none 0 0],.slice none 0 0,.int .i64 code]) (by rw [results_cell3 rfl]; go_simp; try rfl) rfl ?_
  refine .inl ⟨by rw [HCD.out]; exact HC.out,by rw [HCD.out], ?_⟩
  have hbr:=H1.out.2.2.2.2
  have hbp:=H1.out.2.2.2.1
  have hle : W.heap.size ≤ br:=by omega
  exact (((H1.out.1.setCell (show W.heap.size ≤ (⟨br,0,none⟩ : Addr).block from hle) _).setCell (show W.heap.size ≤ (⟨br,1,none⟩ : Addr).block from hle) _).setCell (show W.heap.size ≤ (⟨br,2,none⟩ : Addr).block from hle) _).setCell (show W.heap.size ≤ (⟨br,3,none⟩ : Addr).block from hle) _
end Go.Proofs.YtgblfjccccdidaaGreat
end
section
namespace Go.Proofs.YtgblfjccccdidaaGreat
open Go.RowKit Go.Dfl Go.Gra Go.Tj
structure CL where
 bt : Nat
 bm : Nat
 bs : Nat
 sn : Option Addr
 si : Option Addr
 sl : Option Addr
 so : Option Addr
 cn : Nat
 ci : Nat
 cl : Nat
 co : Nat
 su : Option Addr
 cu : Nat
 us : List Value
 B0 : Nat
 B : Nat
 rl : Nat→Nat
 W0 : World
 n : Nat
 vars : Int
 ll : List (List Int)
structure ClS (L : CL) : Prop where
 kt : L.rl L.bt = 1∧L.bt < L.B∧L.B0 ≤ L.bt
 kn : ∀ q,(Value.slice L.sn L.n L.cn).ownBlock = some q→L.rl q = 2∧q < L.B
 ki : ∀ q,(Value.slice L.si L.n L.ci).ownBlock = some q→L.rl q = 3∧q < L.B
 kl : ∀ q,(Value.slice L.sl L.n L.cl).ownBlock = some q→L.rl q = 4∧q < L.B
 ko : ∀ q,(Value.slice L.so L.n L.co).ownBlock = some q→L.rl q = 5∧q < L.B
 km : L.rl L.bm = 6∧L.bm < L.B∧L.B0 ≤ L.bm
 xs : L.W0.cell? ⟨L.bs,0,none⟩ = some (.int .i64 L.vars)∧L.rl L.bs = 0∧L.bs < L.B
 gr : OwnN IIg L.W0 L.B0 32 (.slice L.su L.n L.cu) L.us L.ll
 gl : L.ll.length = L.n
 gf : ∀ q,Foot (.slice L.su L.n L.cu) L.us q→L.rl q = 0∧q < L.B
 n8 : L.n ≤ 8192
 bb : L.B0 ≤ L.B
structure ClT (L : CL) (cnt : Nat) (W : World) : Prop where
 t0 : W.cell? ⟨L.bt,0,none⟩ = some (.slice L.su L.n L.cu)
 t1 : W.cell? ⟨L.bt,1,none⟩ = some (.slice L.sn L.n L.cn)
 t2 : W.cell? ⟨L.bt,2,none⟩ = some (.slice L.si L.n L.ci)
 t3 : W.cell? ⟨L.bt,3,none⟩ = some (.slice L.sl L.n L.cl)
 t4 : W.cell? ⟨L.bt,4,none⟩ = some (.slice L.so L.n L.co)
 t6 : W.cell? ⟨L.bt,6,none⟩ = some (.int .i64 (cnt : Int))
 tf : ∀ j,W.frozen? ⟨L.bt,j,none⟩ = false
structure ClW (L : CL) (nx ix lw : List Nat) (op : List Bool) (sk : List Nat) (cnt mg : Nat) (pv : Value) (pt : List Nat) (W : World) : Prop where
 t : ClT L cnt W
 sv : ∃ v,W.cell? ⟨L.bt,5,none⟩ = some v∧OwnI W L.B 3 v (castL sk)∧∀ k,pv.ownBlock = some k→v.ownBlock ≠ some k
 hN : OwnI W L.B0 3 (.slice L.sn L.n L.cn) (castL nx)
 hI : OwnI W L.B0 3 (.slice L.si L.n L.ci) (castL ix)
 hL : OwnI W L.B0 3 (.slice L.sl L.n L.cl) (castL lw)
 hO : Go.Dfl.Own Value.bool W L.B0 4 (.slice L.so L.n L.co) op
 m : W.cell? ⟨L.bm,0,none⟩ = some (.int .i64 (mg : Int))
 mf : W.frozen? ⟨L.bm,0,none⟩ = false
 pt : OwnI W L.B 3 pv (castL pt)
 imm : ∀ q,q < L.B→L.rl q = 0→W.heap[q]? = L.W0.heap[q]?
 bel : Below L.B0 L.W0 W
 top : L.B ≤ W.heap.size
 ln : nx.length = L.n
 li : ix.length = L.n
 le : lw.length = L.n
 lo : op.length = L.n
section
variable {L : CL} {nx ix lw : List Nat} {op : List Bool} {sk : List Nat} {cnt mg : Nat} {pv : Value} {pt : List Nat} {W W' w3 : World} {row : Option Nat}
theorem cArr {α : Type} {f : α→Value} {e : TypeId} {v : Value} {l : List α} {r : Nat} (hv : ∀ q,v.ownBlock = some q→L.rl q = r∧q < L.B) (h : Go.Dfl.Own f W L.B0 e v l) (hg : W.grownBy W' row) (hr : ∀ k,row = some k→k < L.B→L.rl k ≠ r) : Go.Dfl.Own f W' L.B0 e v l:=by
 refine Go.Dfl.Own.grown h hg ?_
 cases e : v.ownBlock with
 | none => exact .inl rfl
 | some q => exact .inr fun e2 => hr q e2.symm (hv q e).2 (hv q e).1
theorem cCell {b j r : Nat} {v : Value} (hb : L.rl b = r∧b < L.B) (h : W.cell? ⟨b,j,none⟩ = some v) (hg : W.grownBy W' row) (hr : ∀ k,row = some k→k < L.B→L.rl k ≠ r) : W'.cell? ⟨b,j,none⟩ = some v :=
 hg.cell h fun e => hr b e.symm hb.2 hb.1
theorem cFrz {b j r : Nat} (hb : L.rl b = r∧b < L.B) (ht : b < W.heap.size) (h : W.frozen? ⟨b,j,none⟩ = false) (hg : W.grownBy W' row) (hr : ∀ k,row = some k→k < L.B→L.rl k ≠ r) : W'.frozen? ⟨b,j,none⟩ = false:=by
 rw [World.frozen?_of_block (a:=⟨b,j,none⟩) (hg.block b ht fun e => hr b e.symm hb.2 hb.1)]; exact h
theorem cImm (h : ∀ q,q < L.B→L.rl q = 0→W.heap[q]? = L.W0.heap[q]?) (ht : L.B ≤ W.heap.size) (hg : W.grownBy W' row) (hr : ∀ k,row = some k→k < L.B→L.rl k ≠ 0) : ∀ q,q < L.B→L.rl q = 0→W'.heap[q]? = L.W0.heap[q]?:=fun q hq h0 => by
 rw [hg.block q (by omega) fun e => hr q e.symm hq h0]; exact h q hq h0
theorem ClT.kept (h : ClT L cnt W) (hS : ClS L) (ht : L.B ≤ W.heap.size) (hg : W.grownBy W' row) (hr : ∀ k,row = some k→k < L.B→L.rl k ≠ 1) : ClT L cnt W' :=
 have k : L.rl L.bt = 1∧L.bt < L.B:=⟨hS.kt.1,hS.kt.2.1⟩
 ⟨cCell k h.t0 hg hr,cCell k h.t1 hg hr,cCell k h.t2 hg hr,cCell k h.t3 hg hr,cCell k h.t4 hg hr,cCell k h.t6 hg hr,fun j => cFrz k (by omega) (h.tf j) hg hr⟩
theorem ClW.parts (h : ClW L nx ix lw op sk cnt mg pv pt W) (hS : ClS L) (hg : W.grownBy W' row) {r : Nat} (hr : ∀ k,row = some k→k < L.B→L.rl k = r) (hB : ∀ k,row = some k→L.B0 ≤ k) (h0 : r ≠ 0) :
  (r ≠ 1→ClT L cnt W')∧(r ≠ 1→∀ j v,W.cell? ⟨L.bt,j,none⟩ = some v→W'.cell? ⟨L.bt,j,none⟩ = some v)∧(r ≠ 2→OwnI W' L.B0 3 (.slice L.sn L.n L.cn) (castL nx))∧(r ≠ 3→OwnI W' L.B0 3 (.slice L.si L.n L.ci) (castL ix)) ∧
   (r ≠ 4→OwnI W' L.B0 3 (.slice L.sl L.n L.cl) (castL lw))∧(r ≠ 5→Go.Dfl.Own Value.bool W' L.B0 4 (.slice L.so L.n L.co) op)∧(r ≠ 6→W'.cell? ⟨L.bm,0,none⟩ = some (.int .i64 (mg : Int))∧W'.frozen? ⟨L.bm,0,none⟩ = false) ∧
   (∀ q,q < L.B→L.rl q = 0→W'.heap[q]? = L.W0.heap[q]?)∧Below L.B0 L.W0 W'∧L.B ≤ W'.heap.size:=by
 have hne : ∀ r',r ≠ r'→∀ k,row = some k→k < L.B→L.rl k ≠ r':=fun r' hh k e hk e2 => hh ((hr k e hk).symm.trans e2)
 have hm : L.bm < W.heap.size:=by have:=hS.km.2.1; have:=h.top; omega
 exact ⟨fun h1 => h.t.kept hS h.top hg (hne 1 h1),fun h1 j v hv => cCell ⟨hS.kt.1,hS.kt.2.1⟩ hv hg (hne 1 h1),fun h1 => cArr hS.kn h.hN hg (hne 2 h1),fun h1 => cArr hS.ki h.hI hg (hne 3 h1),fun h1 => cArr hS.kl h.hL hg (hne 4 h1),fun h1 => cArr hS.ko h.hO hg (hne 5 h1),
  fun h1 => ⟨cCell ⟨hS.km.1,hS.km.2.1⟩ h.m hg (hne 6 h1),cFrz ⟨hS.km.1,hS.km.2.1⟩ hm h.mf hg (hne 6 h1)⟩,cImm h.imm h.top hg (hne 0 h0),h.bel.grown hg (Nat.le_trans hS.bb h.top) hB,Nat.le_trans h.top hg.size⟩
theorem own_lowC (L : CL) {W : World} (p : Addr) (x : Value) (hp : p.block < L.B) : (∀ v l,OwnI W L.B 3 v l→OwnI (W.setCell p x) L.B 3 v l):=fun v l ho =>
 ho.setOther (fun e => by have:=(ho.lt _ e).1; omega) x
theorem ClW.setNx (h : ClW L nx ix lw op sk cnt mg pv pt W) (hS : ClS L) {v : Nat} (hv : v < L.n) (x : Nat) : ClW L (nx.set v x) ix lw op sk cnt mg pv pt (W.setCell ⟨blk L.sn,ofs L.sn + v,none⟩ (.int .i64 (x : Int))):=by
 have ho:=own_blkG h.hN (by rw [castL_len]; exact h.ln) (by omega)
 have hk:=hS.kn _ ho
 obtain ⟨a1,a2,a3,a4,a5,a6,a7,a8,a9,a10⟩:=h.parts hS (grownBy_setCell W ⟨blk L.sn,ofs L.sn + v,none⟩ (.int .i64 (x : Int))) (r:=2) (fun k e _ => by obtain rfl:=Option.some.inj e; exact hk.1) (fun k e => by obtain rfl:=Option.some.inj e; exact (h.hN.lt _ ho).1) (by decide)
 have hlow:=own_lowC L (W:=W) ⟨blk L.sn,ofs L.sn + v,none⟩ (.int .i64 (x : Int)) hk.2
 obtain ⟨sv,s1,s2,s3⟩:=h.sv
 exact ⟨a1 (by decide),⟨sv,a2 (by decide) _ _ s1,hlow _ _ s2,s3⟩,by rw [← castL_set]; exact h.hN.set v (x : Int),a4 (by decide),a5 (by decide),a6 (by decide),(a7 (by decide)).1,(a7 (by decide)).2,hlow _ _ h.pt,a8,a9,a10,by simp [h.ln],h.li,h.le,h.lo⟩
theorem ClW.setIx (h : ClW L nx ix lw op sk cnt mg pv pt W) (hS : ClS L) {v : Nat} (hv : v < L.n) (x : Nat) : ClW L nx (ix.set v x) lw op sk cnt mg pv pt (W.setCell ⟨blk L.si,ofs L.si + v,none⟩ (.int .i64 (x : Int))):=by
 have ho:=own_blkG h.hI (by rw [castL_len]; exact h.li) (by omega)
 have hk:=hS.ki _ ho
 obtain ⟨a1,a2,a3,a4,a5,a6,a7,a8,a9,a10⟩:=h.parts hS (grownBy_setCell W ⟨blk L.si,ofs L.si + v,none⟩ (.int .i64 (x : Int))) (r:=3) (fun k e _ => by obtain rfl:=Option.some.inj e; exact hk.1) (fun k e => by obtain rfl:=Option.some.inj e; exact (h.hI.lt _ ho).1) (by decide)
 have hlow:=own_lowC L (W:=W) ⟨blk L.si,ofs L.si + v,none⟩ (.int .i64 (x : Int)) hk.2
 obtain ⟨sv,s1,s2,s3⟩:=h.sv
 exact ⟨a1 (by decide),⟨sv,a2 (by decide) _ _ s1,hlow _ _ s2,s3⟩,a3 (by decide),by rw [← castL_set]; exact h.hI.set v (x : Int),a5 (by decide),a6 (by decide),(a7 (by decide)).1,(a7 (by decide)).2,hlow _ _ h.pt,a8,a9,a10,h.ln,by simp [h.li],h.le,h.lo⟩
theorem ClW.setLw (h : ClW L nx ix lw op sk cnt mg pv pt W) (hS : ClS L) {v : Nat} (hv : v < L.n) (x : Nat) : ClW L nx ix (lw.set v x) op sk cnt mg pv pt (W.setCell ⟨blk L.sl,ofs L.sl + v,none⟩ (.int .i64 (x : Int))):=by
 have ho:=own_blkG h.hL (by rw [castL_len]; exact h.le) (by omega)
 have hk:=hS.kl _ ho
 obtain ⟨a1,a2,a3,a4,a5,a6,a7,a8,a9,a10⟩:=h.parts hS (grownBy_setCell W ⟨blk L.sl,ofs L.sl + v,none⟩ (.int .i64 (x : Int))) (r:=4) (fun k e _ => by obtain rfl:=Option.some.inj e; exact hk.1) (fun k e => by obtain rfl:=Option.some.inj e; exact (h.hL.lt _ ho).1) (by decide)
 have hlow:=own_lowC L (W:=W) ⟨blk L.sl,ofs L.sl + v,none⟩ (.int .i64 (x : Int)) hk.2
 obtain ⟨sv,s1,s2,s3⟩:=h.sv
 exact ⟨a1 (by decide),⟨sv,a2 (by decide) _ _ s1,hlow _ _ s2,s3⟩,a3 (by decide),a4 (by decide),by rw [← castL_set]; exact h.hL.set v (x : Int),a6 (by decide),(a7 (by decide)).1,(a7 (by decide)).2,hlow _ _ h.pt,a8,a9,a10,h.ln,h.li,by simp [h.le],h.lo⟩
theorem own_blkB {w : World} {base n : Nat} {s : Option Addr} {cap : Nat} {l : List Bool} (h : Go.Dfl.Own Value.bool w base 4 (.slice s n cap) l) (hl : l.length = n) (hn : 0 < n) : (Value.slice s n cap).ownBlock = some (blk s):=by
 obtain ⟨-,⟨h2,h3⟩ | ⟨q,cap2,cur,hv, -⟩⟩:=h
 ·rw [hl] at h3; omega
 ·simp only [Value.slice.injEq] at hv
  obtain ⟨rfl, -, -⟩:=hv; rfl
theorem ClW.setOp (h : ClW L nx ix lw op sk cnt mg pv pt W) (hS : ClS L) {v : Nat} (hv : v < L.n) (x : Bool) : ClW L nx ix lw (op.set v x) sk cnt mg pv pt (W.setCell ⟨blk L.so,ofs L.so + v,none⟩ (.bool x)):=by
 have ho:=own_blkB h.hO h.lo (by omega)
 have hk:=hS.ko _ ho
 obtain ⟨a1,a2,a3,a4,a5,a6,a7,a8,a9,a10⟩:=h.parts hS (grownBy_setCell W ⟨blk L.so,ofs L.so + v,none⟩ (.bool x)) (r:=5) (fun k e _ => by obtain rfl:=Option.some.inj e; exact hk.1) (fun k e => by obtain rfl:=Option.some.inj e; exact (h.hO.lt _ ho).1) (by decide)
 have hlow:=own_lowC L (W:=W) ⟨blk L.so,ofs L.so + v,none⟩ (.bool x) hk.2
 obtain ⟨sv,s1,s2,s3⟩:=h.sv
 exact ⟨a1 (by decide),⟨sv,a2 (by decide) _ _ s1,hlow _ _ s2,s3⟩,a3 (by decide),a4 (by decide),a5 (by decide),h.hO.set v x,(a7 (by decide)).1,(a7 (by decide)).2,hlow _ _ h.pt,a8,a9,a10,h.ln,h.li,h.le,by simp [h.lo]⟩
theorem ClW.setCnt (h : ClW L nx ix lw op sk cnt mg pv pt W) (hS : ClS L) (c : Nat) : ClW L nx ix lw op sk c mg pv pt (W.setCell ⟨L.bt,6,none⟩ (.int .i64 (c : Int))):=by
 obtain ⟨a1,a2,a3,a4,a5,a6,a7,a8,a9,a10⟩:=h.parts hS (grownBy_setCell W ⟨L.bt,6,none⟩ (.int .i64 (c : Int))) (r:=1) (fun k e _ => by obtain rfl:=Option.some.inj e; exact hS.kt.1) (fun k e => by obtain rfl:=Option.some.inj e; exact hS.kt.2.2) (by decide)
 have hlow:=own_lowC L (W:=W) ⟨L.bt,6,none⟩ (.int .i64 (c : Int)) hS.kt.2.1
 obtain ⟨sv,s1,s2,s3⟩:=h.sv
 have o : ∀ {j : Nat} {y : Value},j ≠ 6→W.cell? ⟨L.bt,j,none⟩ = some y→(W.setCell ⟨L.bt,6,none⟩ (.int .i64 (c : Int))).cell? ⟨L.bt,j,none⟩ = some y:=fun hj hy => by
  rw [World.cell?_setCell_other _ _ _ _ (by intro e; simp at e; try omega)]; exact hy
 exact ⟨⟨o (by omega) h.t.t0,o (by omega) h.t.t1,o (by omega) h.t.t2,o (by omega) h.t.t3,o (by omega) h.t.t4,World.cell?_setCell_same _ _ _ h.t.t6,fun j => by rw [World.frozen?_setCell]; exact h.t.tf j⟩,⟨sv,o (by omega) s1,hlow _ _ s2,s3⟩,a3 (by decide),a4 (by decide),a5 (by decide),a6 (by decide),(a7 (by decide)).1,(a7 (by decide)).2,hlow _ _ h.pt,a8,a9,a10,h.ln,h.li,h.le,h.lo⟩
theorem ClW.setMg (h : ClW L nx ix lw op sk cnt mg pv pt W) (hS : ClS L) (x : Nat) : ClW L nx ix lw op sk cnt x pv pt (W.setCell ⟨L.bm,0,none⟩ (.int .i64 (x : Int))):=by
 obtain ⟨a1,a2,a3,a4,a5,a6,a7,a8,a9,a10⟩:=h.parts hS (grownBy_setCell W ⟨L.bm,0,none⟩ (.int .i64 (x : Int))) (r:=6) (fun k e _ => by obtain rfl:=Option.some.inj e; exact hS.km.1) (fun k e => by obtain rfl:=Option.some.inj e; exact hS.km.2.2) (by decide)
 have hlow:=own_lowC L (W:=W) ⟨L.bm,0,none⟩ (.int .i64 (x : Int)) hS.km.2.1
 obtain ⟨sv,s1,s2,s3⟩:=h.sv
 exact ⟨a1 (by decide),⟨sv,a2 (by decide) _ _ s1,hlow _ _ s2,s3⟩,a3 (by decide),a4 (by decide),a5 (by decide),a6 (by decide),World.cell?_setCell_same _ _ _ h.m,by rw [World.frozen?_setCell]; exact h.mf,hlow _ _ h.pt,a8,a9,a10,h.ln,h.li,h.le,h.lo⟩
theorem ClW.grow (h : ClW L nx ix lw op sk cnt mg pv pt W) (hS : ClS L) (hg : W.grownBy W' none) : ClW L nx ix lw op sk cnt mg pv pt W':=by
 obtain ⟨a1,a2,a3,a4,a5,a6,a7,a8,a9,a10⟩:=h.parts hS hg (r:=7) (fun k e => by cases e) (fun k e => by cases e) (by decide)
 obtain ⟨sv,s1,s2,s3⟩:=h.sv
 have hn : ∀ v : Value,v.ownBlock = none ∨ v.ownBlock ≠ none:=fun v => by cases v.ownBlock <;> simp
 exact ⟨a1 (by decide),⟨sv,a2 (by decide) _ _ s1,s2.grown hg (hn _),s3⟩,a3 (by decide),a4 (by decide),a5 (by decide),a6 (by decide),(a7 (by decide)).1,(a7 (by decide)).2,h.pt.grown hg (hn _),a8,a9,a10,h.ln,h.li,h.le,h.lo⟩
theorem ClW.setSk (h : ClW L nx ix lw op sk cnt mg pv pt W) (hS : ClS L) {sk' : List Nat} {v' : Value} (hown : OwnI W L.B 3 v' (castL sk')) (hne : ∀ k,pv.ownBlock = some k→v'.ownBlock ≠ some k) : ClW L nx ix lw op sk' cnt mg pv pt (W.setCell ⟨L.bt,5,none⟩ v'):=by
 obtain ⟨a1,a2,a3,a4,a5,a6,a7,a8,a9,a10⟩:=h.parts hS (grownBy_setCell W ⟨L.bt,5,none⟩ v') (r:=1) (fun k e _ => by obtain rfl:=Option.some.inj e; exact hS.kt.1) (fun k e => by obtain rfl:=Option.some.inj e; exact hS.kt.2.2) (by decide)
 have hlow:=own_lowC L (W:=W) ⟨L.bt,5,none⟩ v' hS.kt.2.1
 obtain ⟨sv,s1,s2,s3⟩:=h.sv
 have o : ∀ {j : Nat} {y : Value},j ≠ 5→W.cell? ⟨L.bt,j,none⟩ = some y→(W.setCell ⟨L.bt,5,none⟩ v').cell? ⟨L.bt,j,none⟩ = some y:=fun hj hy => by
  rw [World.cell?_setCell_other _ _ _ _ (by intro e; simp at e; try omega)]; exact hy
 exact ⟨⟨o (by omega) h.t.t0,o (by omega) h.t.t1,o (by omega) h.t.t2,o (by omega) h.t.t3,o (by omega) h.t.t4,o (by omega) h.t.t6,fun j => by rw [World.frozen?_setCell]; exact h.t.tf j⟩,⟨v',World.cell?_setCell_same _ _ _ s1,hlow _ _ hown,hne⟩,a3 (by decide),a4 (by decide),a5 (by decide),a6 (by decide),(a7 (by decide)).1,(a7 (by decide)).2,hlow _ _ h.pt,a8,a9,a10,h.ln,h.li,h.le,h.lo⟩
theorem ClW.rowSk (h : ClW L nx ix lw op sk cnt mg pv pt W) (hS : ClS L) {v : Value} (hv : W.cell? ⟨L.bt,5,none⟩ = some v) (hg : W.grownBy W' v.ownBlock) :
  (W'.cell? ⟨L.bt,5,none⟩ = some v∧W'.frozen? ⟨L.bt,5,none⟩ = false)∧∀ {sk' : List Nat} {v' : Value},OwnI W' L.B 3 v' (castL sk')→(v'.ownBlock = v.ownBlock ∨ ∃ k,v'.ownBlock = some k∧W.heap.size ≤ k)→ClW L nx ix lw op sk' cnt mg pv pt (W'.setCell ⟨L.bt,5,none⟩ v'):=by
 obtain ⟨sv,s1,s2,s3⟩:=h.sv
 obtain rfl : sv = v:=Option.some.inj (s1.symm.trans hv)
 have hq : ∀ k,sv.ownBlock = some k→L.B ≤ k:=fun k e => (s2.lt k e).1
 obtain ⟨a1,a2,a3,a4,a5,a6,a7,a8,a9,a10⟩:=h.parts hS hg (r:=7) (fun k e hk => by have:=hq k e; omega) (fun k e => by have:=hq k e; have:=hS.bb; omega) (by decide)
 have c5:=a2 (by decide) _ _ s1
 have hpt : OwnI W' L.B 3 pv (castL pt):=h.pt.grown hg (by
  cases e : pv.ownBlock with
  | none => exact .inl rfl
  | some k => exact .inr fun e2 => s3 k e e2.symm)
 refine ⟨⟨c5,(a1 (by decide)).tf 5⟩,fun {sk' v'} hown hat => ?_⟩
 have hlow : ∀ v l,OwnI W' L.B 3 v l→OwnI (W'.setCell ⟨L.bt,5,none⟩ v') L.B 3 v l:=fun v l ho => ho.setOther (fun e => by have h9:=(ho.lt _ e).1; have h8:=hS.kt.2.1; dsimp only at h9; omega) _
 have hne : ∀ k,pv.ownBlock = some k→v'.ownBlock ≠ some k:=fun k hk e => by
  rcases hat with e2 | ⟨q,e2,hq2⟩
  ·exact s3 k hk (by rw [← e2]; exact e)
  ·rw [e2] at e
   have:=(h.pt.lt k hk).2
   have:=Option.some.inj e
   omega
 have hown2:=hlow _ _ hown
 have o : ∀ {j : Nat} {y : Value},j ≠ 5→W'.cell? ⟨L.bt,j,none⟩ = some y→(W'.setCell ⟨L.bt,5,none⟩ v').cell? ⟨L.bt,j,none⟩ = some y:=fun hj hy => by
  rw [World.cell?_setCell_other _ _ _ _ (by intro e; simp at e; try omega)]; exact hy
 have gs:=grownBy_setCell W' ⟨L.bt,5,none⟩ v'
 have hne1 : ∀ r',(1 : Nat) ≠ r'→∀ k,some L.bt = some k→k < L.B→L.rl k ≠ r':=fun r' hh k e _ e2 => by
  obtain rfl:=Option.some.inj e
  exact hh (hS.kt.1.symm.trans e2)
 have hmz : L.bm < W'.heap.size:=by have:=hS.km.2.1; omega
 have T:=a1 (by decide)
 exact ⟨⟨o (by omega) T.t0,o (by omega) T.t1,o (by omega) T.t2,o (by omega) T.t3,o (by omega) T.t4,o (by omega) T.t6,fun j => by rw [World.frozen?_setCell]; exact T.tf j⟩,⟨v',World.cell?_setCell_same _ _ _ c5,hown2,hne⟩,cArr hS.kn (a3 (by decide)) gs (hne1 2 (by decide)),cArr hS.ki (a4 (by decide)) gs (hne1 3 (by decide)),cArr hS.kl (a5 (by decide)) gs (hne1 4 (by decide)),cArr hS.ko (a6 (by decide)) gs (hne1 5 (by decide)),cCell ⟨hS.km.1,hS.km.2.1⟩ (a7 (by decide)).1 gs (hne1 6 (by decide)),cFrz ⟨hS.km.1,hS.km.2.1⟩ hmz (a7 (by decide)).2 gs (hne1 6 (by decide)),
  hlow _ _ hpt,cImm a8 a10 gs (hne1 0 (by decide)),a9.setCell hS.kt.2.2 _,by rw [World.size_setCell]; exact a10,h.ln,h.li,h.le,h.lo⟩
theorem ClW.rowPt (h : ClW L nx ix lw op sk cnt mg pv pt W) (hS : ClS L) (hg : W.grownBy W' pv.ownBlock) {pv' : Value} {pt' : List Nat} (hown : OwnI W' L.B 3 pv' (castL pt')) (hat : pv'.ownBlock = pv.ownBlock ∨ ∃ k,pv'.ownBlock = some k∧W.heap.size ≤ k) : ClW L nx ix lw op sk cnt mg pv' pt' W':=by
 have hq : ∀ k,pv.ownBlock = some k→L.B ≤ k:=fun k e => (h.pt.lt k e).1
 obtain ⟨a1,a2,a3,a4,a5,a6,a7,a8,a9,a10⟩:=h.parts hS hg (r:=7) (fun k e hk => by have:=hq k e; omega) (fun k e => by have:=hq k e; have:=hS.bb; omega) (by decide)
 obtain ⟨sv,s1,s2,s3⟩:=h.sv
 refine ⟨a1 (by decide),⟨sv,a2 (by decide) _ _ s1,s2.grown hg ?_,fun k hk e => ?_⟩,a3 (by decide),a4 (by decide),a5 (by decide),a6 (by decide),(a7 (by decide)).1,(a7 (by decide)).2,hown,a8,a9,a10,h.ln,h.li,h.le,h.lo⟩
 ·cases e : sv.ownBlock with
  | none => exact .inl rfl
  | some k => exact .inr fun e2 => s3 k e2.symm e
 ·rcases hat with e2 | ⟨q,e2,hq2⟩
  ·exact s3 k (by rw [← e2]; exact hk) e
  ·rw [e2] at hk
   have:=(s2.lt k e).2
   have:=Option.some.inj hk
   omega
theorem ClW.succ (h : ClW L nx ix lw op sk cnt mg pv pt W) (hS : ClS L) : OwnN IIg W L.B0 32 (.slice L.su L.n L.cu) L.us L.ll:=by
 have hown : ∀ (v : Value),(∀ q,v.ownBlock = some q→L.rl q = 0∧q < L.B)→∀ {α : Type} (f : α→Value) (e : TypeId) (l : List α),Go.Dfl.Own f L.W0 L.B0 e v l→Go.Dfl.Own f W L.B0 e v l:=fun v hv α f e l ho => by
  obtain ⟨h1,⟨h2,h3⟩ | ⟨g,cap,cur,hv9,hg,hh,hc,hm,hsz,htk⟩⟩:=ho
  ·exact ⟨h1,.inl ⟨h2,h3⟩⟩
  ·refine ⟨h1,.inr ⟨g,cap,cur,hv9,hg, ?_,hc,hm,hsz,htk⟩⟩
   have hb:=hv g (by rw [hv9]; rfl)
   rw [h.imm g hb.2 hb.1]; exact hh
 refine ⟨hown _ (fun q hq => hS.gf q (.inl hq)) _ _ _ hS.gr.out,hS.gr.len,fun i hi => hown _ (fun q hq => hS.gf q (.inr ⟨i,by rw [hS.gr.len]; exact hi,hq⟩)) _ _ _ (hS.gr.inn i hi),hS.gr.sep,hS.gr.apart⟩
theorem ClW.svars (h : ClW L nx ix lw op sk cnt mg pv pt W) (hS : ClS L) : W.cell? ⟨L.bs,0,none⟩ = some (.int .i64 L.vars):=by
 rw [World.cell?_of_block (a:=⟨L.bs,0,none⟩) (h.imm L.bs hS.xs.2.2 hS.xs.2.1)]; exact hS.xs.1
theorem ClW.rdN (h : ClW L nx ix lw op sk cnt mg pv pt W) {x : Nat} (hx : x < L.n) :
  W.cell? ⟨blk L.sn,ofs L.sn + x,none⟩ = some (.int .i64 ((nth nx x : Nat) : Int))∧(∀ Y,(Instr.indexAt 32 (.slice L.sn L.n L.cn) (.int .i64 (x : Int))).run Tryz.prog Y = .ok (.pointer (some ⟨blk L.sn,ofs L.sn + x,none⟩)) Y)∧W.frozen? ⟨blk L.sn,ofs L.sn + x,none⟩ = false:=by
 obtain ⟨a,b,c⟩:=own_int h.hN (by rw [castL_len]; exact h.ln) hx
 rw [castL_nth (by rw [h.ln]; exact hx)] at a
 exact ⟨a,b,c⟩
theorem ClW.rdI (h : ClW L nx ix lw op sk cnt mg pv pt W) {x : Nat} (hx : x < L.n) :
  W.cell? ⟨blk L.si,ofs L.si + x,none⟩ = some (.int .i64 ((nth ix x : Nat) : Int))∧(∀ Y,(Instr.indexAt 32 (.slice L.si L.n L.ci) (.int .i64 (x : Int))).run Tryz.prog Y = .ok (.pointer (some ⟨blk L.si,ofs L.si + x,none⟩)) Y)∧W.frozen? ⟨blk L.si,ofs L.si + x,none⟩ = false:=by
 obtain ⟨a,b,c⟩:=own_int h.hI (by rw [castL_len]; exact h.li) hx
 rw [castL_nth (by rw [h.li]; exact hx)] at a
 exact ⟨a,b,c⟩
theorem ClW.rdL (h : ClW L nx ix lw op sk cnt mg pv pt W) {x : Nat} (hx : x < L.n) :
  W.cell? ⟨blk L.sl,ofs L.sl + x,none⟩ = some (.int .i64 ((nth lw x : Nat) : Int))∧(∀ Y,(Instr.indexAt 32 (.slice L.sl L.n L.cl) (.int .i64 (x : Int))).run Tryz.prog Y = .ok (.pointer (some ⟨blk L.sl,ofs L.sl + x,none⟩)) Y)∧W.frozen? ⟨blk L.sl,ofs L.sl + x,none⟩ = false:=by
 obtain ⟨a,b,c⟩:=own_int h.hL (by rw [castL_len]; exact h.le) hx
 rw [castL_nth (by rw [h.le]; exact hx)] at a
 exact ⟨a,b,c⟩
theorem sBoolC : SliceOf Tryz.prog 81 4 (.bool false) 1 1:=⟨Tryz.underlying81,info_parts (P:=Tryz.prog) (e:=4) (by kernel_rfl)⟩
theorem ClW.rdO (h : ClW L nx ix lw op sk cnt mg pv pt W) {x : Nat} (hx : x < L.n) :
  W.cell? ⟨blk L.so,ofs L.so + x,none⟩ = some (.bool (nth op x))∧(∀ Y,(Instr.indexAt 81 (.slice L.so L.n L.co) (.int .i64 (x : Int))).run Tryz.prog Y = .ok (.pointer (some ⟨blk L.so,ofs L.so + x,none⟩)) Y)∧W.frozen? ⟨blk L.so,ofs L.so + x,none⟩ = false:=by
 obtain ⟨a9,c9,he,hm9,hidx,hcell, -⟩:=h.hO.lst.out1 sBoolC
 rw [h.lo] at he hm9 hidx hcell
 simp only [Value.slice.injEq] at he
 obtain ⟨rfl, -,rfl⟩:=he
 exact ⟨hcell x hx,fun Y => by have:=hidx .i64 (x : Int) (by omega) (by omega) Y; rw [Int.toNat_natCast] at this; exact this,h.hO.frozen (by rw [h.lo]; omega) _⟩
end
end Go.Proofs.YtgblfjccccdidaaGreat
end
section
namespace Go.Proofs.YtgblfjccccdidaaGreat
open Go.RowKit Go.Dfl Go.Gra Go.Tj
def EnterR (L : CL) (nx ix lw : List Nat) (op : List Bool) (sk : List Nat) (cnt mg : Nat) (pv : Value) (pt : List Nat) (v : Nat) (e : Ending) (W' : World) : Prop :=
 e = .returned (.tuple #[])∧ClW L nx (ix.set v (cnt + 1)) (lw.set v (cnt + 1)) (op.set v true) (sk ++ [v]) (cnt + 1) mg pv pt W'
set_option maxHeartbeats 6400000 in
set_option maxRecDepth 100000 in
theorem enter_any (L : CL) (hS : ClS L) (nx ix lw : List Nat) (op : List Bool) (sk : List Nat) (cnt mg : Nat) (pv : Value) (pt : List Nat) (v : Nat) (W : World) (h : ClW L nx ix lw op sk cnt mg pv pt W) (hv : v < L.n) (hc : cnt ≤ 100000) (hl : sk.length ≤ 100000) :
  Calls Tryz.prog 85 #[.pointer (some ⟨L.bt,0,none⟩),.int .i64 (v : Int)] W (EnterR L nx ix lw op sk cnt mg pv pt v):=by
 have HS:=Lib.hid hS
 have hw : IntKind.i64.wrap ((cnt : Int) + 1) = (cnt : Int) + 1:=IntWalk.i64_in _ (by omega)
 have c6:=h.t.t6
 have f6:=h.t.tf 6
 have h1:=h.setCnt hS (cnt + 1)
 rw [show ((cnt + 1 : Nat) : Int) = (cnt : Int) + 1 by omega] at h1
 have H1:=Lib.hid h1
 clear h h1 hS
 go_enter Tryz.func85,Tryz.ntmps85
 go_upto_region 1 with fail
 refine gen_code (fun Z => ClW L nx ix lw op sk (cnt + 1) mg pv pt Z) H1.out ?_
 intro Z hZ
 clear c6 f6 H1 hw
 have HZ:=Lib.hid hZ
 have hd:=hZ.grow HS.out (grownBy_drew0 Z)
 have c2:=hd.t.t2
 have c3:=hd.t.t3
 have c4:=hd.t.t4
 have c6:=hd.t.t6
 rw [show ((cnt + 1 : Nat) : Int) = (cnt : Int) + 1 by omega] at c6
 obtain ⟨i1,i2,i3⟩:=hd.rdI hv
 obtain ⟨l1,l2,l3⟩:=hd.rdL hv
 obtain ⟨o1,o2,o3⟩:=hd.rdO hv
 have hq1:=hd.setIx HS.out hv (cnt + 1)
 rw [show ((cnt + 1 : Nat) : Int) = (cnt : Int) + 1 by omega] at hq1
 have HQ1:=Lib.hid hq1
 clear hZ hd hq1
 refine wp_region_mix [0,1,2,3,4,5,6,7,8,9,10,11,12,13,14,15,16,17,18,19,20,21,22] [23,24,25,26,27,28] (fun w' => w'.cell? ⟨L.bt,2,none⟩ = some (.slice L.si L.n L.ci)∧w'.cell? ⟨L.bt,3,none⟩ = some (.slice L.sl L.n L.cl)∧w'.cell? ⟨L.bt,4,none⟩ = some (.slice L.so L.n L.co)∧w'.cell? ⟨L.bt,6,none⟩ = some (.int .i64 ((cnt : Int) + 1))) (by kernel_rfl) (by kernel_rfl) (by kernel_rfl) ⟨c2,c3,c4,c6⟩ ?_
 repeat (
  refine wpHeads_cons (v:=?_) rfl (Or.inl ⟨by rfl, ?_⟩) ?_
  rotate_left
  ·(intro W hW; obtain ⟨q1,q2,q3,q4⟩:=hW; go_simp; try with_reducible rfl)
  simp only [Act.put,List.setIfInBounds_toArray,List.getElem_toArray,List.getElem_cons_zero,List.getElem_cons_succ,List.set_cons_succ,List.set_cons_zero])
 refine wpHeads_nil ?_
 generalize Z.drew = Z1 at *
 refine wpTails_cons rfl ?_
 go_wp2_with fail
 refine tail_mk ⟨c2,c3,c4,c6⟩ ?_
 refine wpTails_cons rfl ?_
 go_wp2_with fail
 refine K_gen (fun Y => ClW L nx (ix.set v (cnt + 1)) lw op sk (cnt + 1) mg pv pt Y) HQ1.out ?_
 intro Z2 hZ2
 clear HQ1 HZ i1 i2 i3 l1 l3 o1 o3 c2 c3 c4 c6
 have s2:=hZ2.t.t2
 have s3:=hZ2.t.t3
 have s4:=hZ2.t.t4
 have s6:=hZ2.t.t6
 rw [show ((cnt + 1 : Nat) : Int) = (cnt : Int) + 1 by omega] at s6
 have HSS:=Lib.hid (And.intro s2 (And.intro s3 (And.intro s4 s6)))
 obtain ⟨l1, -,l3⟩:=hZ2.rdL hv
 have hq2:=hZ2.setLw HS.out hv (cnt + 1)
 rw [show ((cnt + 1 : Nat) : Int) = (cnt : Int) + 1 by omega] at hq2
 have HQ2:=Lib.hid hq2
 clear hZ2 hq2 s2 s3 s4 s6
 refine tail_mk HSS.out ?_
 refine wpTails_cons rfl ?_
 go_wp2_with fail
 refine tail_mk HSS.out ?_
 refine wpTails_cons rfl ?_
 go_wp2_with fail
 refine K_gen (fun Y => ClW L nx (ix.set v (cnt + 1)) (lw.set v (cnt + 1)) op sk (cnt + 1) mg pv pt Y) HQ2.out ?_
 intro Z3 hZ3
 clear HQ2 HSS l1 l2 l3
 have s2:=hZ3.t.t2
 have s3:=hZ3.t.t3
 have s4:=hZ3.t.t4
 have s6:=hZ3.t.t6
 rw [show ((cnt + 1 : Nat) : Int) = (cnt : Int) + 1 by omega] at s6
 have HSS:=Lib.hid (And.intro s2 (And.intro s3 (And.intro s4 s6)))
 obtain ⟨o1, -,o3⟩:=hZ3.rdO hv
 have HQ3:=Lib.hid (hZ3.setOp HS.out hv true)
 clear hZ3 s2 s3 s4 s6
 refine tail_mk HSS.out ?_
 refine wpTails_cons rfl ?_
 go_wp2_with fail
 refine tail_mk HSS.out ?_
 refine wpTails_one rfl ?_
 go_wp2_with fail
 refine K_gen (fun Y => ClW L nx (ix.set v (cnt + 1)) (lw.set v (cnt + 1)) (op.set v true) sk (cnt + 1) mg pv pt Y) HQ3.out ?_
 intro Z4 hZ4
 clear HQ3 HSS o1 o2 o3
 have HZ4:=Lib.hid hZ4
 refine thenQ_mk ?_
 obtain ⟨sv,t1,t2, -⟩:=hZ4.sv
 have f5:=hZ4.t.tf 5
 have hsB:=hZ4.top
 obtain ⟨ss,sc,rfl⟩:=t2.shape (n:=sk.length) (by rw [castL_len])
 have hll : (castL sk).length < 17592186044416:=by rw [castL_len]; omega
 have HT2:=Lib.hid t2
 have hss : ((castL sk) ++ [(v : Int)]) = castL (sk ++ [v]):=by unfold castL; rw [List.map_append]; rfl
 have HSS2:=Lib.hid hss
 clear hZ4 t2 hss
 go_wp2_with (at_builtin; refine wp_append1at (f:=Value.int .i64) sIntG rfl _ rfl _ _ rfl L.B _ (castL sk) rfl (HT2.out.alloc _) (v : Int) ⟨Z4.heap.size,0,none⟩ rfl (cell_alloc1 _ _ _) rfl hll (by omega) (le_alloc _ hsB) ?_; intro v' w3 hown hgr hat; obtain ⟨s9,c9,rfl⟩:=hown.shape (n:=sk.length + 1) (by rw [List.length_append,castL_len]; rfl); rw [HSS2.out] at hown; obtain ⟨⟨e1,e2⟩,hfin⟩:=HZ4.out.rowSk HS.out t1 (grownBy_trans (grownBy_widen (grownBy_alloc Z4 (.cells #[.int .i64 (v : Int)] 3))) hgr); have HO:=Lib.hid (hfin hown (hat.imp id fun e => ⟨_,e,by simp⟩)); clear hown hgr hat t1 hfin)
 refine bodyPost_ret (v:=.tuple #[]) (results_none rfl _ _ _) rfl ?_
 exact ⟨rfl,HO.out⟩
def CloseR (L : CL) (nx ix lw : List Nat) (op : List Bool) (sk : List Nat) (cnt mg : Nat) (pv : Value) (pt : List Nat) (a : Nat) (C : List Nat) (e : Ending) (W' : World) : Prop :=
 e = .returned (.int .i64 (a : Int))∧∃ op',(∀ x,x < L.n→nth op' x = if x ∈ C then false else nth op x)∧ClW L nx ix lw op' sk cnt mg pv pt W'
set_option maxHeartbeats 6400000 in
set_option maxRecDepth 100000 in
theorem close_any (L : CL) (hS : ClS L) (nx ix lw : List Nat) (op : List Bool) (sk s0 c : List Nat) (cnt mg : Nat) (pv : Value) (pt : List Nat) (v : Nat) (W : World) (h : ClW L nx ix lw op sk cnt mg pv pt W) (hsk : sk = s0 ++ v :: c) (hnd : sk.Nodup) (hlt : ∀ x ∈ sk,x < L.n) (hop : ∀ x ∈ sk,nth op x = true) (hl : sk.length ≤ 100000) :
  Calls Tryz.prog 86 #[.pointer (some ⟨L.bt,0,none⟩),.int .i64 (v : Int)] W (CloseR L nx ix lw op sk cnt mg pv pt s0.length (v :: c)):=by
 have HS:=Lib.hid hS
 have hvm : v ∈ sk:=by rw [hsk]; simp
 have hv:=hlt v hvm
 have hlen : sk.length = s0.length + (c.length + 1):=by rw [hsk,List.length_append]; rfl
 have hdrop : sk.drop s0.length = v :: c:=by rw [hsk,List.drop_left]
 have hnv : nth sk s0.length = v:=by rw [hsk,nth_append,if_neg (Nat.lt_irrefl _),Nat.sub_self]; rfl
 have HQ:=Lib.hid (And.intro hnd (And.intro hlt (And.intro hop (And.intro hdrop hnv))))
 obtain ⟨S0,hS0⟩ : ∃ S0,S0 = s0.length:=⟨_,rfl⟩
 obtain ⟨N,hN⟩ : ∃ N,N = sk.length:=⟨_,rfl⟩
 obtain ⟨sv,t1,t2, -⟩:=h.sv
 obtain ⟨ss,sc,rfl⟩:=t2.shape (n:=N) (by rw [castL_len,hN])
 rw [← hS0] at HQ ⊢
 have HLN:=Lib.hid (And.intro hN (show S0 < N by omega))
 have hNl : N ≤ 100000:=by omega
 have H:=Lib.hid (And.intro h t2)
 clear hvm hsk hnd hlt hop hdrop hnv hS0 hN hlen hl t2 hS h
 go_enter Tryz.func86,Tryz.ntmps86
 go_wp2_with fail
 clear t1
 go_loopw [5] (fun x wr => ∃ (k : Nat) (op1 : List Bool),(S0 ≤ k∧k ≤ N)∧x = .int .i64 (k : Int)∧Hid (ClW L nx ix lw op1 sk cnt mg pv pt wr∧(∀ x,x < L.n→nth op1 x = if x ∈ sk.drop k then false else nth op x))) (fun x _ => (intOf x).toNat - S0)
 case atStart => exact ⟨N,op,⟨by have:=HLN.out.2; omega,by omega⟩,rfl,H.out.1,fun x _ => by rw [List.drop_eq_nil_of_le (by rw [HLN.out.1]; exact Nat.le_refl _)]; simp⟩
 case round =>
  obtain ⟨k,op1,hk,rfl,hh⟩:=hrel
  have HH:=Lib.hid hh.out
  clear hh
  have t4:=HH.out.1.t.t4
  obtain ⟨o1,o2, -⟩:=HH.out.1.rdO hv
  have hov:=HH.out.2 v hv
  by_cases hlt : S0 < k
  ·have hnm : ¬ v ∈ sk.drop k:=fun hm => by
    obtain ⟨i,hi,hiv⟩:=List.getElem_of_mem hm
    rw [List.getElem_drop] at hiv
    have h1 : k + i < sk.length:=by simp at hi; omega
    have h2 : S0 < sk.length:=by have:=HLN.out.2; have:=HLN.out.1; omega
    have h3:=HQ.out.2.2.2.2
    rw [nth_eq _ _ h2] at h3
    have:=(List.getElem_inj HQ.out.1).1 (hiv.trans h3.symm)
    omega
   rw [if_neg hnm,HQ.out.2.2.1 v (by have:=HQ.out.2.2.2.2; rw [← this]; exact nth_mem _ _ (by have:=HLN.out.2; have:=HLN.out.1; omega))] at hov
   rw [hov] at o1
   obtain ⟨j,hj⟩ : ∃ j,k = j + 1:=⟨k - 1,by omega⟩
   have hw : IntKind.i64.wrap ((k : Int) - 1) = (j : Int):=by rw [IntWalk.i64_in _ (by omega)]; omega
   have hjN : j < N:=by omega
   obtain ⟨x,hx⟩ : ∃ x,x = nth sk j:=⟨_,rfl⟩
   have hxm : x ∈ sk:=by rw [hx]; exact nth_mem _ _ (by rw [← HLN.out.1]; exact hjN)
   have hxn:=HQ.out.2.1 x hxm
   have HJ:=Lib.hid (And.intro hj (And.intro hx hxm))
   clear hnm hov hj hx hxm
   go_upto_region 4 with fail
   have hd:=HH.out.1.grow HS.out (grownBy_drew0 wr)
   clear t4 o1
   have t4:=hd.t.t4
   obtain ⟨sv,t5,t6, -⟩:=hd.sv
   obtain ⟨sa,sc2,rfl⟩:=t6.shape (n:=N) (by rw [castL_len,HLN.out.1])
   obtain ⟨p1,p2, -⟩:=own_int t6 (by rw [castL_len,HLN.out.1]) hjN
   rw [castL_nth (by rw [← HLN.out.1]; exact hjN), ← HJ.out.2.1] at p1
   obtain ⟨q1,q2,q3⟩:=hd.rdO hxn
   have hst:=hd.setOp HS.out hxn false
   have HD:=Lib.hid hst
   clear hd t6 hst
   refine wp_region_mix [0,1,2,3,4,5,6,7,8,9,10] [11,12] (fun w' => w'.cell? ⟨L.bt,4,none⟩ = some (.slice L.so L.n L.co)∧w'.cell? ⟨L.bt,5,none⟩ = some (.slice sa N sc2)∧w'.cell? ⟨blk sa,ofs sa + j,none⟩ = some (.int .i64 (x : Int))) (by kernel_rfl) (by kernel_rfl) (by kernel_rfl) ⟨t4,t5,p1⟩ ?_
   repeat (
    refine wpHeads_cons (v:=?_) rfl (Or.inl ⟨by rfl, ?_⟩) ?_
    rotate_left
    ·(intro W hW; obtain ⟨g1,g2,g3⟩:=hW; go_simp; try with_reducible rfl)
    simp only [Act.put,List.setIfInBounds_toArray,List.getElem_toArray,List.getElem_cons_zero,List.getElem_cons_succ,List.set_cons_succ,List.set_cons_zero])
   refine wpHeads_nil ?_
   generalize wr.drew = Z1 at *
   refine wpTails_cons rfl ?_
   go_wp2_with fail
   refine tail_mk ⟨t4,t5,p1⟩ ?_
   refine wpTails_one rfl ?_
   go_wp2_with fail
   refine thenQ_mk ?_
   clear t4 t5 p1 p2 q1 q2 q3
   go_wp2_with fail
   go_roundw
   case rel =>
    refine ⟨j,op1.set x false,⟨by have:=HJ.out.1; omega,by omega⟩,rfl,HD.out,fun y hy => ?_⟩
    have hjl : j < sk.length:=by rw [← HLN.out.1]; exact hjN
    have hdr : sk.drop j = x :: sk.drop k:=by rw [HJ.out.1,HJ.out.2.1,List.drop_eq_getElem_cons hjl,nth_eq _ _ hjl]
    rw [nth_set,HH.out.2 y hy,hdr,HH.out.1.lo]
    by_cases e : x = y
    ·subst e
     rw [if_pos ⟨rfl,hy⟩,if_pos (by simp)]
    ·rw [if_neg (fun h => e h.1)]
     by_cases h9 : y ∈ sk.drop k
     ·rw [if_pos h9,if_pos (List.mem_cons_of_mem _ h9)]
     ·rw [if_neg h9,if_neg (fun h => by rcases List.mem_cons.1 h with h | h; exact e h.symm; exact h9 h)]
   case measure => have:=HJ.out.1; simp [intOf]; omega
  ·obtain rfl : k = S0:=by omega
   rw [HQ.out.2.2.2.1,if_pos (by simp)] at hov
   rw [hov] at o1
   go_wp2_with fail
   go_ret
   refine ⟨rfl,op1,fun x hx => ?_,HH.out.1⟩
   rw [HH.out.2 x hx,HQ.out.2.2.2.1]
end Go.Proofs.YtgblfjccccdidaaGreat
end
section
namespace Go.Proofs.YtgblfjccccdidaaGreat
open Go.RowKit Go.Dfl Go.Gra Go.Tj
def below (N : Nat) (C : List Nat) : Nat:=(C.filter fun x => decide (x < N)).length
theorem below_le (N : Nat) (C : List Nat) : below N C ≤ C.length:=List.length_filter_le _ _
theorem below_yes {N : Nat} {C : List Nat} {k : Nat} (hk : k < C.length) (h : nth C k < N) : below N (C.take (k + 1)) = below N (C.take k) + 1:=by
 unfold below; rw [take_snoc _ _ hk,List.filter_append]; simp [h]
theorem below_no {N : Nat} {C : List Nat} {k : Nat} (hk : k < C.length) (h : ¬ nth C k < N) : below N (C.take (k + 1)) = below N (C.take k):=by
 unfold below; rw [take_snoc _ _ hk,List.filter_append]; simp; omega
def EachR (L : CL) (nx ix lw : List Nat) (op : List Bool) (sk : List Nat) (cnt mg : Nat) (pv : Value) (pt : List Nat) (C : List Nat) (e : Ending) (W' : World) : Prop :=
 e = .returned (.tuple #[])∧ClW L nx ix lw op sk cnt (mg + (below L.vars.toNat C - 1)) pv pt W'
set_option maxHeartbeats 3200000 in
set_option maxRecDepth 100000 in
theorem each_any (L : CL) (hS : ClS L) (hvars : 0 ≤ L.vars) (nx ix lw : List Nat) (op : List Bool) (sk : List Nat) (cnt mg : Nat) (pv : Value) (pt : List Nat) (W : World) (h : ClW L nx ix lw op sk cnt mg pv pt W) (u : Value) (C : List Nat) (hu : Ints W u (castL C)) (hC : C.length ≤ 100000) (hm : mg ≤ 100000000) :
  Calls Tryz.prog 35 #[u,.pointer (some ⟨L.bs,0,none⟩),.pointer (some ⟨L.bm,0,none⟩)] W (EachR L nx ix lw op sk cnt mg pv pt C):=by
 obtain ⟨a,c,rfl,um,ui,ucell, -⟩:=hu.out1 sIntG
 rw [castL_len] at um ui ucell ⊢
 have HS:=Lib.hid hS
 have cs:=h.svars hS
 have cm:=h.m
 have fm:=h.mf
 have H:=Lib.hid (And.intro h ucell)
 have HV:=Lib.hid hvars
 clear h ucell hu hS hvars
 go_enter Tryz.func35,Tryz.ntmps35
 go_wp2_with fail
 go_loopw [4,6,9] (fun y _ x wr => ∃ k : Nat,k ≤ C.length∧x = .int .i64 (k : Int)∧y = .int .i64 ((below L.vars.toNat (C.take k) : Nat) : Int)∧wr = W) (fun _ _ x _ => C.length - (intOf x).toNat)
 case atStart => exact ⟨0,by omega,rfl,rfl,rfl⟩
 case round =>
  obtain ⟨k,hk,rfl,rfl,rfl⟩:=hrel
  have hb:=below_le L.vars.toNat (C.take k)
  have hb2 : (C.take k).length ≤ 100000:=by simp; omega
  by_cases hlt : k < C.length
  ·have u0:=H.out.2 k hlt
   rw [castL_nth hlt] at u0
   have ui0:=ui .i64 (k : Int) (by omega) (by omega)
   rw [Int.toNat_natCast] at ui0
   by_cases h9 : nth C k < L.vars.toNat
   ·have w1 : decide (((nth C k : Nat) : Int) < L.vars) = true:=decide_eq_true (by have:=HV.out; omega)
    have HB:=Lib.hid (below_yes hlt h9)
    clear h9
    obtain ⟨b,hbb⟩ : ∃ b,b = below L.vars.toNat (C.take k):=⟨_,rfl⟩
    rw [← hbb] at HB hb ⊢
    clear hbb
    go_wp2_with fail
    go_roundw
    case rel => exact ⟨k + 1,by omega,by go_num,by rw [HB.out]; go_num,by first | rfl | trivial⟩
    case measure => simp [intOf]; omega
   ·have w1 : decide (((nth C k : Nat) : Int) < L.vars) = false:=decide_eq_false (by have:=HV.out; omega)
    have HB:=Lib.hid (below_no hlt h9)
    clear h9
    obtain ⟨b,hbb⟩ : ∃ b,b = below L.vars.toNat (C.take k):=⟨_,rfl⟩
    rw [← hbb] at HB hb ⊢
    clear hbb
    go_wp2_with fail
    go_roundw
    case rel => exact ⟨k + 1,by omega,by go_num,by rw [HB.out],by first | rfl | trivial⟩
    case measure => simp [intOf]; omega
  ·obtain rfl : k = C.length:=by omega
   rw [List.take_length] at hb ⊢
   obtain ⟨b,hbb⟩ : ∃ b,b = below L.vars.toNat C:=⟨_,rfl⟩
   rw [← hbb] at hb ⊢
   have hmx : mx ((b : Int) - 1) 0 = ((b - 1 : Nat) : Int):=by unfold mx; split <;> omega
   have hw1 : IntKind.i64.wrap ((b : Int) - 1) = (b : Int) - 1:=IntWalk.i64_in _ (by omega)
   have hw2 : IntKind.i64.wrap ((mg : Int) + ((b - 1 : Nat) : Int)) = ((mg + (b - 1) : Nat) : Int):=by rw [IntWalk.i64_in _ (by omega)]; omega
   have hrun:=run_mx Tryz.prog
   have HF:=Lib.hid (show ClW L nx ix lw op sk cnt (mg + (b - 1)) pv pt _ from H.out.1.setMg HS.out (mg + (b - 1)))
   have HBB:=Lib.hid hbb
   clear hbb hb hk hlt
   go_wp2_with fail
   refine bodyPost_ret (v:=.tuple #[]) (results_none rfl _ _ _) rfl ?_
   exact ⟨rfl,by rw [← HBB.out]; exact HF.out⟩
end Go.Proofs.YtgblfjccccdidaaGreat
end
section
namespace Go.Tj
open Go.Dfl (nth nth_set nth_mem mem_nth nth_eq nth_ext nth_append take_snoc)
def NxOk (nx : List Nat) : List Tf→Prop
 | [] => True
 | f :: r => nth nx f.v = f.k∧∀ g ∈ r,nth nx g.v = g.k + 1
structure RI (E : Nat→Nat→Prop) (n N : Nat) (row : Nat→List Nat) (s0 : Ts) (root : Nat) (F : List Tf) (s : Ts) (nx : List Nat) (op : List Bool) (mg : Nat) : Prop where
 ok : FsOk E n row F s
 nxt : NxOk nx F
 nx0 : ∀ x,x < n→nth s.num x = 0→nth nx x = 0
 op : ∀ x,x < n→nth op x = decide (nth s.num x ≠ 0∧nth s.hd x < 0)
 mg : mg = offH N s.hd
 keep : ∀ x,x < n→nth s0.num x ≠ 0→nth s.num x ≠ 0
 rt : nth s.num root ≠ 0
section
variable {E : Nat→Nat→Prop} {n N : Nat} {row : Nat→List Nat} {s0 : Ts} {root : Nat} {F r : List Tf} {f g : Tf} {s : Ts} {nx : List Nat} {op : List Bool} {mg : Nat}
theorem mem_gray : ∀ {F : List Tf} {x : Nat},x ∈ grayF F ↔ ∃ g ∈ F,g.v = x
 | [],x => by simp [grayF]
 | f :: r,x => by
   unfold grayF
   rw [List.mem_append,mem_gray,List.mem_singleton]
   constructor
   ·rintro (⟨g,hg,e⟩ | e)
    ·exact ⟨g,List.mem_cons_of_mem _ hg,e⟩
    ·exact ⟨f,by simp,e.symm⟩
   ·rintro ⟨g,hg,e⟩
    rcases List.mem_cons.1 hg with rfl | hg
    ·exact .inr e.symm
    ·exact .inl ⟨g,hg,e⟩
theorem FsOk.apart (h : FsOk E n row (f :: r) s) : ∀ g ∈ r,g.v ≠ f.v:=fun g hg e => by
 have h1:=h.2.2.inv.1.gs g.v (mem_gray.2 ⟨g,hg,rfl⟩)
 have h2:=((h.2.2.inv.1.stkm _).1 h1).2.1
 exact h2 (by rw [e]; exact h.1.v0)
theorem FsOk.lt (h : FsOk E n row (f :: r) s) : f.v < n∧nth s.num f.v ≠ 0∧f.v ∈ s.stk∧nth s.hd f.v < 0:=h.1.vn
theorem FsOk.tail_lt (h : FsOk E n row (f :: g :: r) s) : g.v < n:=h.2.2.1.vn.1
theorem gray_len : ∀ F : List Tf,(grayF F).length = F.length
 | [] => rfl
 | f :: r => by unfold grayF; rw [List.length_append,gray_len r]; rfl
theorem gray_last (f : Tf) (r : List Tf) : nth (grayF (f :: r)) r.length = f.v:=by
 unfold grayF
 rw [nth_append,gray_len,if_neg (Nat.lt_irrefl _),Nat.sub_self]; rfl
theorem gray_take (f : Tf) (r : List Tf) : (grayF (f :: r)).take r.length = grayF r:=by
 show (grayF r ++ [f.v]).take r.length = grayF r
 rw [List.take_append_of_le_length (by rw [gray_len]; exact Nat.le_refl _),List.take_of_length_le (by rw [gray_len]; exact Nat.le_refl _)]
theorem FsOk.flen : ∀ {F : List Tf} {s : Ts},FsOk E n row F s→F.length ≤ s.cnt
 | [],_,_ => Nat.zero_le _
 | f :: r,s,h => by
   have h1:=FsOk.flen h.2.2
   have h2:=h.1.cle
   simp only [List.length_cons]
   omega
theorem RI.enter (ok : FsOk E n row [] s) (nx0 : ∀ x,x < n→nth s.num x = 0→nth nx x = 0) (hop : ∀ x,x < n→nth op x = decide (nth s.num x ≠ 0∧nth s.hd x < 0)) (hlo : op.length = n) (hmg : mg = offH N s.hd) (hr : root < n) (h0 : nth s.num root = 0) :
  RI E n N row s root [⟨root,0,s⟩] ⟨s.cnt + 1,s.num.set root (s.cnt + 1),s.low.set root (s.cnt + 1),s.hd,s.stk ++ [root]⟩ nx (op.set root true) mg:=by
 have hln:=ok.1.lenN
 have hneg:=ok.1.un root hr h0
 refine ⟨ok.root hr h0,⟨nx0 root hr h0,fun g hg => by cases hg⟩,fun x hx hx0 => ?_,fun x hx => ?_,hmg,fun x hx hx0 => ?_, ?_⟩
 ·dsimp only at hx0
  rw [nth_set] at hx0
  split at hx0
  ·omega
  ·exact nx0 x hx hx0
 ·dsimp only
  rw [nth_set,nth_set,hln,hlo]
  by_cases e : root = x
  ·subst e; rw [if_pos ⟨rfl,hr⟩,if_pos ⟨rfl,hr⟩]; simp [hneg]
  ·rw [if_neg (fun h => e h.1),if_neg (fun h => e h.1)]; exact hop x hx
 ·dsimp only
  rw [nth_set]
  split
  ·omega
  ·exact hx0
 ·dsimp only
  rw [nth_set,if_pos ⟨rfl,by rw [hln]; exact hr⟩]; omega
theorem RI.push (h : RI E n N row s0 root (g :: r) s nx op mg) (hrow : ∀ v w,E v w ↔ w ∈ row v) (hlx : nx.length = n) (hlo : op.length = n) {w : Nat} (hk : g.k < (row g.v).length) (hw : nth (row g.v) g.k = w) (hwn : w < n) (h0 : nth s.num w = 0) :
  RI E n N row s0 root (⟨w,0,s⟩ :: g :: r) ⟨s.cnt + 1,s.num.set w (s.cnt + 1),s.low.set w (s.cnt + 1),s.hd,s.stk ++ [w]⟩ (nx.set g.v (g.k + 1)) (op.set w true) mg:=by
 have hln:=h.ok.inv.1.lenN
 have hneg:=h.ok.inv.1.un w hwn h0
 obtain ⟨hgn,hg0, -, -⟩:=h.ok.lt
 have hwg : w ≠ g.v:=fun e => hg0 (by rw [← e]; exact h0)
 refine ⟨h.ok.push hrow hk hw hwn h0,⟨?_,fun q hq => ?_⟩,fun x hx hx0 => ?_,fun x hx => ?_,h.mg,fun x hx hx0 => ?_, ?_⟩
 ·dsimp only
  rw [nth_set,if_neg fun h => hwg h.1.symm]; exact h.nx0 w hwn h0
 ·rcases List.mem_cons.1 hq with rfl | hq
  ·rw [nth_set,if_pos ⟨rfl,by rw [hlx]; exact hgn⟩]
  ·rw [nth_set,if_neg fun e => h.ok.apart q hq e.1.symm]; exact h.nxt.2 q hq
 ·dsimp only at hx0
  rw [nth_set] at hx0
  split at hx0
  ·omega
  ·rw [nth_set,if_neg fun e => hg0 (by rw [e.1]; exact hx0)]; exact h.nx0 x hx hx0
 ·dsimp only
  rw [nth_set,nth_set,hln,hlo]
  by_cases e : w = x
  ·subst e; rw [if_pos ⟨rfl,hwn⟩,if_pos ⟨rfl,hwn⟩]; simp [hneg]
  ·rw [if_neg (fun h => e h.1),if_neg (fun h => e h.1)]; exact h.op x hx
 ·dsimp only
  rw [nth_set]
  split
  ·omega
  ·exact h.keep x hx hx0
 ·dsimp only
  rw [nth_set]
  split
  ·omega
  ·exact h.rt
theorem RI.nx_step (h : RI E n N row s0 root (g :: r) s nx op mg) (hlx : nx.length = n) : nth (nx.set g.v (g.k + 1)) g.v = g.k + 1∧(∀ q ∈ r,nth (nx.set g.v (g.k + 1)) q.v = q.k + 1)∧∀ x,x < n→nth s.num x = 0→nth (nx.set g.v (g.k + 1)) x = 0:=by
 obtain ⟨hgn,hg0, -, -⟩:=h.ok.lt
 refine ⟨by rw [nth_set,if_pos ⟨rfl,by rw [hlx]; exact hgn⟩],fun q hq => ?_,fun x hx hx0 => ?_⟩
 ·rw [nth_set,if_neg fun e => h.ok.apart q hq e.1.symm]; exact h.nxt.2 q hq
 ·rw [nth_set,if_neg fun e => hg0 (by rw [e.1]; exact hx0)]; exact h.nx0 x hx hx0
theorem RI.back (h : RI E n N row s0 root (g :: r) s nx op mg) (hrow : ∀ v w,E v w ↔ w ∈ row v) (hlx : nx.length = n) {w : Nat} (hk : g.k < (row g.v).length) (hw : nth (row g.v) g.k = w) (hwn : w < n) (h0 : nth s.num w ≠ 0) (h1 : nth s.hd w < 0) :
  RI E n N row s0 root (⟨g.v,g.k + 1,g.s0⟩ :: r) ⟨s.cnt,s.num,s.low.set g.v (min (nth s.low g.v) (nth s.num w)),s.hd,s.stk⟩ (nx.set g.v (g.k + 1)) op mg:=by
 obtain ⟨a,b,c⟩:=h.nx_step hlx
 exact ⟨h.ok.back hrow hk hw hwn h0 h1,⟨a,b⟩,c,h.op,h.mg,h.keep,h.rt⟩
theorem RI.done (h : RI E n N row s0 root (g :: r) s nx op mg) (hlx : nx.length = n) {w : Nat} (hw : nth (row g.v) g.k = w) (h0 : nth s.num w ≠ 0) (h1 : 0 ≤ nth s.hd w) :
  RI E n N row s0 root (⟨g.v,g.k + 1,g.s0⟩ :: r) s (nx.set g.v (g.k + 1)) op mg:=by
 obtain ⟨a,b,c⟩:=h.nx_step hlx
 exact ⟨h.ok.done hw h0 h1,⟨a,b⟩,c,h.op,h.mg,h.keep,h.rt⟩
def popF : List Tf→List Tf
 | [] => []
 | g :: q => ⟨g.v,g.k + 1,g.s0⟩ :: q
def popL (low : List Nat) (v : Nat) : List Tf→List Nat
 | [] => low
 | g :: _ => low.set g.v (min (nth low g.v) (nth low v))
theorem popF_gray (r : List Tf) : grayF (popF r) = grayF r:=by cases r <;> rfl
theorem popF_len (r : List Tf) : (popF r).length = r.length:=by cases r <;> rfl
theorem FsOk.popS (h : FsOk E n row (f :: r) s) (hrow : ∀ v w,E v w ↔ w ∈ row v) {s' : Ts} (hp : TP E n (grayF r) f.v f.s0.cnt f.s0.num f.s0.low f.s0.hd f.s0.stk s'.cnt s'.num s'.low s'.hd s'.stk) :
  FsOk E n row (popF r) ⟨s'.cnt,s'.num,popL s'.low f.v r,s'.hd,s'.stk⟩:=by
 have:=h.pop hrow hp
 cases r with
 | nil => exact this
 | cons g q => exact this
theorem NxOk.pop (h : NxOk nx (f :: r)) : NxOk nx (popF r):=by
 cases r with
 | nil => trivial
 | cons g q => exact ⟨h.2 g (by simp),fun p hp => h.2 p (by simp [hp])⟩
theorem RI.leave1 (h : RI E n N row s0 root (f :: r) s nx op mg) (hrow : ∀ v w,E v w ↔ w ∈ row v) (hk : f.k = (row f.v).length) (hlt : nth s.low f.v < nth s.num f.v) :
  RI E n N row s0 root (popF r) ⟨s.cnt,s.num,popL s.low f.v r,s.hd,s.stk⟩ nx op mg :=
 ⟨h.ok.popS hrow (h.ok.leave1 hrow hk hlt),h.nxt.pop,h.nx0,h.op,h.mg,h.keep,h.rt⟩
theorem least_ex : ∀ (l : List Nat),l ≠ []→∃ m ∈ l, ∀ x ∈ l,m ≤ x
 | [],h => absurd rfl h
 | [a],_ => ⟨a,by simp,fun x hx => by simp at hx; omega⟩
 | a :: b :: l,_ => by
   obtain ⟨m,h1,h2⟩:=least_ex (b :: l) (by simp)
   by_cases h : a ≤ m
   ·exact ⟨a,by simp,fun x hx => by
     rcases List.mem_cons.1 hx with rfl | hx
     ·exact Nat.le_refl _
     ·exact Nat.le_trans h (h2 x hx)⟩
   ·exact ⟨m,List.mem_cons_of_mem _ h1,fun x hx => by
     rcases List.mem_cons.1 hx with rfl | hx
     ·omega
     ·exact h2 x hx⟩
theorem RI.leave2 (h : RI E n N row s0 root (f :: r) s nx op mg) (hrow : ∀ v w,E v w ↔ w ∈ row v) (hE9 : ∀ a b,E a b→b < n) (hN : N ≤ n) (hk : f.k = (row f.v).length) (hge : ¬ nth s.low f.v < nth s.num f.v) :
  ∃ c st,s.stk = st ++ f.v :: c∧∀ op' : List Bool,(∀ x,x < n→nth op' x = if x ∈ f.v :: c then false else nth op x) →
   ∃ hd',RI E n N row s0 root (popF r) ⟨s.cnt,s.num,popL s.low f.v r,hd',st⟩ nx op' (mg + (((f.v :: c).filter fun x => decide (x < N)).length - 1)):=by
 obtain ⟨c,hc,hcl⟩:=h.ok.leave2 hrow hE9 hk hge
 refine ⟨c,f.s0.stk,hc,fun op' hop' => ?_⟩
 obtain ⟨m,hm,hmin⟩:=least_ex (f.v :: c) (by simp)
 have hI:=h.ok.inv.1
 have hsub : ∀ x ∈ f.v :: c,x ∈ s.stk:=fun x hx => by rw [hc]; exact List.mem_append_right _ hx
 obtain ⟨hd',hhd⟩ : ∃ hd' : List Int,hd' = (List.range n).map fun x => if x ∈ f.v :: c then (m : Int) else nth s.hd x:=⟨_,rfl⟩
 have hl : hd'.length = n:=by rw [hhd]; simp
 have hh : ∀ x,x < n→nth hd' x = if x ∈ f.v :: c then (m : Int) else nth s.hd x:=fun x hx => by
  rw [hhd,nth_eq _ _ (by simpa using hx)]; simp
 have hTP:=hcl m hm hmin hd' hl hh
 have hnd : (f.v :: c).Nodup:=by
  have:=hI.nd
  rw [hc,List.nodup_append] at this
  exact this.2.1
 refine ⟨hd',h.ok.popS (s':=⟨s.cnt,s.num,s.low,hd',f.s0.stk⟩) hrow hTP,h.nxt.pop,h.nx0,fun x hx => ?_, ?_,h.keep,h.rt⟩
 ·rw [hop' x hx]
  dsimp only
  rw [hh x hx]
  by_cases hm : x ∈ f.v :: c
  ·rw [if_pos hm,if_pos hm]
   symm
   rw [decide_eq_false_iff_not]
   omega
  ·rw [if_neg hm,if_neg hm]; exact h.op x hx
 ·dsimp only
  rw [off_close hN hnd (fun x hx => ((hI.stkm x).1 (hsub x hx)).2.2) hm hmin hh,h.mg]
end
end Go.Tj
end
section
namespace Go.Proofs.YtgblfjccccdidaaGreat
open Go.RowKit Go.Dfl Go.Gra Go.Tj
structure RowsC (L : CL) (rw : Nat→List Nat) : Prop where
 eq : ∀ v,v < L.n→nth L.ll v = castL (rw v)
 lt : ∀ v w,w ∈ rw v→v < L.n∧w < L.n
 sz : ∀ v,(rw v).length ≤ 1000000
abbrev eC (rw : Nat→List Nat) (a b : Nat) : Prop:=b ∈ rw a
def eachV (L : CL) : Value:=.func (.func 35) #[] #[.pointer (some ⟨L.bs,0,none⟩),.pointer (some ⟨L.bm,0,none⟩)]
def RunR (L : CL) (rw : Nat→List Nat) (s0 : Ts) (root : Nat) (e : Ending) (W' : World) : Prop :=
 e = .returned (.tuple #[])∧∃ s nx op mg,RI (eC rw) L.n L.vars.toNat rw s0 root [] s nx op mg∧ClW L nx s.num s.low op s.stk s.cnt mg (.slice none 0 0) [] W'
theorem ClW.dropPt {L : CL} {nx ix lw : List Nat} {op : List Bool} {sk : List Nat} {cnt mg : Nat} {pv : Value} {pt : List Nat} {W : World} (h : ClW L nx ix lw op sk cnt mg pv pt W) : ClW L nx ix lw op sk cnt mg (.slice none 0 0) [] W:=by
 obtain ⟨sv,s1,s2, -⟩:=h.sv
 exact ⟨h.t,⟨sv,s1,s2,fun k hk => by simp [Value.ownBlock] at hk⟩,h.hN,h.hI,h.hL,h.hO,h.m,h.mf,Go.Dfl.Own.nil _ _ _ _,h.imm,h.bel,h.top,h.ln,h.li,h.le,h.lo⟩
theorem own_lit1 {W : World} {B : Nat} (x : Int) (hB : B ≤ W.heap.size) : OwnI (W.alloc (.cells #[.int .i64 x] 3)) B 3 (.slice (some ⟨W.heap.size,0,none⟩) 1 1) [x] :=
 ⟨by simp,.inr ⟨W.heap.size,1, #[.int .i64 x],rfl,hB,heap_alloc_new _ _,by simp,by unfold maxLen; omega,rfl,rfl⟩⟩
theorem ClW.row {L : CL} (hS : ClS L) {rw : Nat→List Nat} (hR : RowsC L rw) {v : Nat} (hv : v < L.n) : ∃ ra rc,nth L.us v = .slice ra (rw v).length rc:=by
 have h:=hS.gr.inn v (by rw [hS.gl]; exact hv)
 rw [hR.eq v hv] at h
 exact h.shape (by rw [castL_len])
theorem ClW.rdS {L : CL} {nx ix lw : List Nat} {op : List Bool} {sk : List Nat} {cnt mg : Nat} {pv : Value} {pt : List Nat} {W : World} (h : ClW L nx ix lw op sk cnt mg pv pt W) (hS : ClS L) {rw : Nat→List Nat} (hR : RowsC L rw) {v : Nat} (hv : v < L.n) {ra : Option Addr} {rc : Nat} (he : nth L.us v = .slice ra (rw v).length rc) :
  W.cell? ⟨blk L.su,ofs L.su + v,none⟩ = some (.slice ra (rw v).length rc)∧(∀ Y,(Instr.indexAt 27 (.slice L.su L.n L.cu) (.int .i64 (v : Int))).run Tryz.prog Y = .ok (.pointer (some ⟨blk L.su,ofs L.su + v,none⟩)) Y) ∧
   ∀ j,j < (rw v).length→W.cell? ⟨blk ra,ofs ra + j,none⟩ = some (.int .i64 ((nth (rw v) j : Nat) : Int))∧∀ Y,(Instr.indexAt 32 (.slice ra (rw v).length rc) (.int .i64 (j : Int))).run Tryz.prog Y = .ok (.pointer (some ⟨blk ra,ofs ra + j,none⟩)) Y:=by
 have hsu:=h.succ hS
 obtain ⟨a4,c4,he4,hm4,hidx4,hcell4, -⟩:=hsu.out.lst.out1 sRowsG
 have hvl : L.us.length = L.n:=by rw [hsu.len]; exact hS.gl
 rw [hvl] at he4 hm4 hidx4 hcell4
 simp only [Value.slice.injEq] at he4
 obtain ⟨e1, -,e2⟩:=he4
 have ccl:=hcell4 v hv
 rw [← e1,he] at ccl
 have hrow:=hsu.inn v (by rw [hS.gl]; exact hv)
 rw [hR.eq v hv,he] at hrow
 refine ⟨ccl,fun Y => ?_,fun j hj => ?_⟩
 ·have i4:=hidx4 .i64 (v : Int) (by omega) (by omega) Y
  rw [Int.toNat_natCast, ← e1, ← e2] at i4
  exact i4
 ·obtain ⟨r1,i1, -⟩:=own_int hrow (castL_len _) hj
  rw [castL_nth hj] at r1
  exact ⟨r1,i1⟩
theorem own_cutC {α : Type} {f : α→Value} {P : Program} {t e : TypeId} {z : Value} {by8 : Nat} {w : World} {base : Nat} {v : Value} {l : List α} (ht : SliceOf P t e z 1 by8) (h : Go.Dfl.Own f w base e v l) {k : Nat} (hk : k ≤ l.length) :
  ∃ a c,(∀ (ik : IntKind) (W : World),(Instr.slice t v none (some (.int ik (k : Int))) none).run P W = .ok (.slice a k c) W)∧(Value.slice a k c).ownBlock = v.ownBlock∧∀ Z,Go.Dfl.Own f Z base e v l→Go.Dfl.Own f Z base e (.slice a k c) (l.take k):=by
 obtain ⟨i,hi,_,hs,_⟩:=ht.info
 have hlt : (l.take k).length = k:=by simp; omega
 obtain ⟨h1,⟨rfl,h2⟩ | ⟨g,cap,cur,rfl,hg,hh,hc,hm,hsz,htk⟩⟩:=h
 ·obtain rfl : k = 0:=by omega
  refine ⟨none,0,fun ik W => ?_,rfl,fun Z _ => by simpa using Go.Dfl.Own.nil f Z base e⟩
  simp [Instr.slice,run_underlying ht.und,Instr.sliceBounds,Instr.sliceBound,asIntOf,run_sizeOf _ hi]
 ·refine ⟨some ⟨g,0,none⟩,cap,fun ik W => ?_,rfl,fun Z hZ => ?_⟩
  ·have h1' : k ≤ cap:=by omega
   simp [Instr.slice,run_underlying ht.und,Instr.sliceBounds,Instr.sliceBound,asIntOf,h1',run_sizeOf _ hi,Addr.add]
  ·obtain ⟨h1,⟨h2,h3⟩ | ⟨g',cap',cur',hv,hg',hh',hc',hm',hsz',htk'⟩⟩:=hZ
   ·simp at h2
   ·simp only [Value.slice.injEq,Option.some.injEq,Addr.mk.injEq] at hv
    obtain ⟨⟨rfl, -⟩, -,rfl⟩:=hv
    refine ⟨by simp,.inr ⟨g,cap,cur',by rw [hlt],hg',hh',by omega,hm',hsz', ?_⟩⟩
    rw [hlt,List.map_take, ← htk',List.take_take]
    congr 1
    omega
def Both (L : CL) (rw : Nat→List Nat) (s0 : Ts) (root : Nat) (F : List Tf) (s : Ts) (nx : List Nat) (op : List Bool) (mg : Nat) (pv : Value) (W : World) : Prop :=
 RI (eC rw) L.n L.vars.toNat rw s0 root F s nx op mg∧ClW L nx s.num s.low op s.stk s.cnt mg pv (grayF F) W
set_option maxHeartbeats 12800000 in
set_option maxRecDepth 100000 in
theorem run_any (L : CL) (hS : ClS L) (hvars : 0 ≤ L.vars) (hN : L.vars.toNat ≤ L.n) (rw : Nat→List Nat) (hR : RowsC L rw) (s0 : Ts) (nx : List Nat) (op : List Bool) (mg root : Nat) (W : World)
  (ok : FsOk (eC rw) L.n rw [] s0) (hnx : ∀ x,x < L.n→nth s0.num x = 0→nth nx x = 0) (hop : ∀ x,x < L.n→nth op x = decide (nth s0.num x ≠ 0∧nth s0.hd x < 0)) (hmg : mg = offH L.vars.toNat s0.hd)
  (h : ClW L nx s0.num s0.low op s0.stk s0.cnt mg (.slice none 0 0) [] W) (hr : root < L.n) (h0 : nth s0.num root = 0) :
  Calls Tryz.prog 55 #[.pointer (some ⟨L.bt,0,none⟩),.int .i64 (root : Int),eachV L] W (RunR L rw s0 root):=by
 have hn8:=hS.n8
 have hrow : ∀ v w,eC rw v w ↔ w ∈ rw v:=fun v w => Iff.rfl
 have hRI:=RI.enter (N:=L.vars.toNat) ok hnx hop h.lo hmg hr h0
 have hcle:=ok.1.cle
 have hsl:=ok.1.slen
 have HC:=Lib.hid (And.intro hS (And.intro hvars (And.intro hN (And.intro hR (And.intro hrow (And.intro hRI h))))))
 have HE:=Lib.hid (enter_any L hS nx s0.num s0.low op s0.stk s0.cnt mg (.slice none 0 0) [] root W h hr (by omega) (by omega))
 clear hS hvars hN hR hrow ok hnx hop hmg h h0 hRI hcle hsl
 unfold eachV
 go_enter Tryz.func55,Tryz.ntmps55
 go_wp2_with fail
 go_step3
 go_wp2_with fail
 refine HE.out.mono ?_
 rintro e W1 ⟨rfl,h1⟩
 have hT:=h1.top
 have h2:=h1.rowPt HC.out.1 (W':=W1.alloc (.cells #[.int .i64 (root : Int)] 3)) (grownBy_alloc W1 _) (pt':=[root]) (own_lit1 (root : Int) hT) (.inr ⟨W1.heap.size,rfl,Nat.le_refl _⟩)
 have H2:=Lib.hid (show Both L rw s0 root [⟨root,0,s0⟩] ⟨s0.cnt + 1,s0.num.set root (s0.cnt + 1),s0.low.set root (s0.cnt + 1),s0.hd,s0.stk ++ [root]⟩ nx (op.set root true) mg (.slice (some ⟨W1.heap.size,0,none⟩) 1 1) _ from ⟨HC.out.2.2.2.2.2.1,h2⟩)
 clear h1 h2 hT HE
 go_wp2_with fail
 go_step3
 go_wp2_with fail
 go_loopg [6] (2 * (L.n - (s0.cnt + 1)) + 1) (fun g x wr => ∃ (F : List Tf) (s : Ts) (nx1 : List Nat) (op1 : List Bool) (mg1 : Nat) (pa : Option Addr) (pc : Nat),2 * (L.n - s.cnt) + F.length ≤ g∧x = .slice pa F.length pc∧Hid (Both L rw s0 root F s nx1 op1 mg1 (.slice pa F.length pc) wr∧∀ f r,F = f :: r→f.k ≤ (rw f.v).length))
 case atStart => exact ⟨[⟨root,0,s0⟩],_,nx,_,mg,_,_,Nat.le_refl _,rfl,H2.out,fun f r e => by cases e; exact Nat.zero_le _⟩
 case round =>
  obtain ⟨F,s,nx1,op1,mg1,pa,pc,hg,rfl,hh⟩:=hrel
  have HH:=Lib.hid hh.out
  clear hh
  cases F with
  | nil =>
    go_wp2_with fail
    refine bodyPost_ret (v:=.tuple #[]) (results_none rfl _ _ _) rfl ?_
    exact ⟨rfl,s,nx1,op1,mg1,HH.out.1.1,HH.out.1.2.dropPt⟩
  | cons f r =>
    obtain ⟨hfn, -, -, -⟩:=HH.out.1.1.ok.lt
    have hcle:=HH.out.1.1.ok.inv.1.cle
    have hflen:=HH.out.1.1.ok.flen
    rw [List.length_cons] at hflen hg
    obtain ⟨P,hP⟩ : ∃ P,P = (f :: r).length:=⟨_,rfl⟩
    have hPr : P = r.length + 1:=hP
    have hpt:=HH.out.1.2.pt
    rw [← hP] at hpt ⊢
    have hgl : (castL (grayF (f :: r))).length = P:=by rw [castL_len,gray_len,hP]
    obtain ⟨p1,p2, -⟩:=own_int hpt hgl (x:=r.length) (by omega)
    rw [castL_nth (by rw [gray_len]; simp),gray_last] at p1
    have hw : IntKind.i64.wrap ((P : Int) - 1) = (r.length : Int):=by rw [IntWalk.i64_in _ (by omega)]; omega
    have w0 : decide ((0 : Int) < (P : Int)) = true:=decide_eq_true (by omega)
    have w0' : decide (0 < P) = true:=decide_eq_true (by omega)
    have HP:=Lib.hid (And.intro hP (And.intro hPr hgl))
    obtain ⟨m,hm⟩ : ∃ m,m = r.length:=⟨_,rfl⟩
    have HM:=Lib.hid hm
    have HG:=Lib.hid (And.intro hg (And.intro hflen (And.intro hcle hfn)))
    obtain ⟨v,hv⟩ : ∃ v,v = f.v:=⟨_,rfl⟩
    have HVV:=Lib.hid hv
    rw [← hm] at p1 p2 hw
    rw [← hv] at p1 hfn
    clear hP hPr hgl hm hg hflen hcle hpt hv
    go_wp2_with fail
    clear p1 p2 hw w0 w0'
    have hst : Both L rw s0 root (⟨v,f.k,f.s0⟩ :: r) s nx1 op1 mg1 (.slice pa P pc) wr∧s.cnt = s.cnt:=by
     have:=HH.out.1
     rw [← HP.out.1] at this
     rw [HVV.out]
     exact ⟨this,rfl⟩
    have HST:=Lib.hid hst
    have hfk:=HH.out.2 f r rfl
    rw [← HVV.out] at hfk
    obtain ⟨ra,rc,hrv⟩:=ClW.row HC.out.1 HC.out.2.2.2.1 hfn
    have hrs:=HC.out.2.2.2.1.sz v
    obtain ⟨rl,hrl⟩ : ∃ rl,rl = (rw v).length:=⟨_,rfl⟩
    rw [← hrl] at hfk hrs
    have HRV:=Lib.hid (And.intro hrv hrl)
    clear hst hrv hrl
    go_loopg [6,8] (rl - f.k) (fun g2 y _ wr => ∃ (k : Nat) (s1 : Ts) (nx2 : List Nat),k ≤ rl∧rl - k ≤ g2∧y = .slice pa P pc∧Hid (Both L rw s0 root (⟨v,k,f.s0⟩ :: r) s1 nx2 op1 mg1 (.slice pa P pc) wr∧s1.cnt = s.cnt))
    case atStart => exact ⟨f.k,s,nx1,hfk,Nat.le_refl _,rfl,HST.out⟩
    case round =>
     obtain ⟨k,s1,nx2,hk,hg2,rfl,hh⟩:=hrel
     have HI:=Lib.hid hh.out
     clear hh
     have hRI:=HI.out.1.1
     have hnxk : nth nx2 v = k:=hRI.nxt.1
     obtain ⟨n1,n2,n3⟩:=HI.out.1.2.rdN hfn
     rw [hnxk] at n1
     obtain ⟨u1,u2,u3⟩:=HI.out.1.2.rdS HC.out.1 HC.out.2.2.2.1 hfn HRV.out.1
     have t0:=HI.out.1.2.t.t0
     have t1:=HI.out.1.2.t.t1
     have t2:=HI.out.1.2.t.t2
     rw [← HRV.out.2] at u1 u3
     have HU:=Lib.hid (And.intro u3 (And.intro hnxk hRI))
     clear u3 hnxk hRI
     by_cases hlt : k < rl
     ·
      have w1 : decide ((k : Int) < (rl : Int)) = true:=decide_eq_true (by omega)
      have w1' : decide (k < rl) = true:=decide_eq_true hlt
      go_upto_region 4 with fail
      go_quiet (fail)
      refine K_gen (fun Y => Both L rw s0 root (⟨v,k,f.s0⟩ :: r) s1 nx2 op1 mg1 (.slice pa P pc) Y) ⟨HI.out.1.1,HI.out.1.2.grow HC.out.1 (grownBy_drewN (grownBy_refl _ _) _)⟩ ?_
      intro Y hY
      have HY:=Lib.hid hY
      clear hY n1 n2 n3 u1 u2 t0 t1 t2 w1 w1'
      obtain ⟨n1,n2,n3⟩:=HY.out.2.rdN hfn
      rw [HU.out.2.1] at n1
      obtain ⟨u1,u2,u3⟩:=HY.out.2.rdS HC.out.1 HC.out.2.2.2.1 hfn HRV.out.1
      rw [← HRV.out.2] at u1 u3
      obtain ⟨j1,j2⟩:=u3 k hlt
      have t0:=HY.out.2.t.t0
      have t1:=HY.out.2.t.t1
      have t2:=HY.out.2.t.t2
      clear u3
      have HJ:=Lib.hid j1
      clear n3
      go_upto_region 5 with fail
      go_quiet (fail)
      refine K_gen (fun Y => Both L rw s0 root (⟨v,k,f.s0⟩ :: r) s1 nx2 op1 mg1 (.slice pa P pc) Y) ⟨HY.out.1,HY.out.2.grow HC.out.1 (grownBy_drewN (grownBy_refl _ _) _)⟩ ?_
      intro Y2 hY2
      have HY2:=Lib.hid hY2
      clear hY2 n1 n2 u1 u2 t0 t1 t2 j1 j2 HY HJ
      obtain ⟨w,hw⟩ : ∃ w,w = nth (rw v) k:=⟨_,rfl⟩
      rw [← hw]
      obtain ⟨n1,n2,n3⟩:=HY2.out.2.rdN hfn
      rw [HU.out.2.1] at n1
      have t1:=HY2.out.2.t.t1
      have hwk : IntKind.i64.wrap ((k : Int) + 1) = (k : Int) + 1:=IntWalk.i64_in _ (by omega)
      have hq:=HY2.out.2.setNx HC.out.1 hfn (k + 1)
      rw [show ((k + 1 : Nat) : Int) = (k : Int) + 1 by omega] at hq
      have hwE : eC rw v w:=by rw [hw]; exact nth_mem _ _ (by rw [← HRV.out.2]; exact hlt)
      have hwn:=(HC.out.2.2.2.1.lt v w hwE).2
      have HQ:=Lib.hid (And.intro hq (And.intro hw hwE))
      clear hq hw hwE
      go_upto_region 7 with fail
      refine gen_code (fun Z => ClW L (nx2.set v (k + 1)) s1.num s1.low op1 s1.stk s1.cnt mg1 (.slice pa P pc) (grayF (⟨v,k,f.s0⟩ :: r)) Z) HQ.out.1 ?_
      intro Z hZ
      have HZ:=Lib.hid hZ
      clear hZ n1 n2 n3 t1 hwk
      obtain ⟨i1,i2, -⟩:=HZ.out.rdI hwn
      have t2:=HZ.out.t.t2
      have hRI:=HY2.out.1
      have hkr : (⟨v,k,f.s0⟩ : Tf).k < (rw (⟨v,k,f.s0⟩ : Tf).v).length:=by show k < (rw v).length; rw [← HRV.out.2]; exact hlt
      have HRI:=Lib.hid (And.intro hRI (And.intro hkr HQ.out.2.1))
      clear hRI hkr
      by_cases h0 : nth s1.num w = 0
      ·rw [h0] at i1
       have hclt:=HRI.out.1.ok.inv.1.clt hwn h0
       have hsl:=HRI.out.1.ok.inv.1.slen
       have hpush:=HRI.out.1.push (fun _ _ => Iff.rfl) HY2.out.2.ln HY2.out.2.lo HRI.out.2.1 HRI.out.2.2.symm hwn h0
       have HPU:=Lib.hid (And.intro hpush (And.intro hclt HI.out.2))
       have HCALL:=Lib.hid (enter_any L HC.out.1 (nx2.set v (k + 1)) s1.num s1.low op1 s1.stk s1.cnt mg1 (.slice pa P pc) (grayF (⟨v,k,f.s0⟩ :: r)) w Z HZ.out hwn (by omega) (by omega))
       clear hpush hclt hsl h0
       go_wp2_with fail
       refine HCALL.out.mono ?_
       rintro e Z5 ⟨rfl,h5⟩
       have H5:=Lib.hid h5
       have hB5:=h5.top
       have hgl5 : (castL (grayF (⟨v,k,f.s0⟩ :: r))).length = P:=by rw [castL_len,gray_len,List.length_cons]; exact HP.out.2.1.symm
       have hll : (castL (grayF (⟨v,k,f.s0⟩ :: r))).length < 17592186044416:=by rw [hgl5]; have:=HG.out.2.1; have:=HG.out.2.2.1; have:=HP.out.2.1; omega
       have hss : castL (grayF (⟨v,k,f.s0⟩ :: r)) ++ [(w : Int)] = castL (grayF (⟨w,0,s1⟩ :: ⟨v,k,f.s0⟩ :: r)):=by
        show _ = castL (grayF (⟨v,k,f.s0⟩ :: r) ++ [w])
        unfold castL; rw [List.map_append]; rfl
       have HSS:=Lib.hid (And.intro hss hgl5)
       clear h5 HCALL i1 i2 t2 hgl5 hss
       go_wp2_with (at_builtin; refine wp_append1at (f:=Value.int .i64) sIntG rfl _ rfl _ _ rfl L.B (.slice pa P pc) (castL (grayF (⟨v,k,f.s0⟩ :: r))) rfl (H5.out.pt.alloc _) (w : Int) ⟨Z5.heap.size,0,none⟩ rfl (cell_alloc1 _ _ _) rfl hll (by omega) (le_alloc _ hB5) ?_; intro v' w3 hown hgr hat; obtain ⟨s9,c9,rfl⟩:=hown.shape (n:=P + 1) (by rw [List.length_append,HSS.out.2]; rfl); rw [HSS.out.1] at hown; have HO:=Lib.hid (H5.out.rowPt HC.out.1 (grownBy_trans (grownBy_widen (grownBy_alloc Z5 (.cells #[.int .i64 (w : Int)] 3))) hgr) hown (hat.imp id fun e => ⟨_,e,by simp⟩)); clear hown hgr hat)
       go_roundg (2 * (L.n - (s1.cnt + 1)) + (P + 1))
       case measure => have h1:=HPU.out.2.1; have h2:=HPU.out.2.2; have h3:=HG.out.1; have h4:=HP.out.2.1; omega
       case rel =>
        have hlen : (⟨w,0,s1⟩ :: ⟨v,k,f.s0⟩ :: r : List Tf).length = P + 1:=by simp only [List.length_cons]; have h4:=HP.out.2.1; omega
        refine ⟨⟨w,0,s1⟩ :: ⟨v,k,f.s0⟩ :: r,⟨s1.cnt + 1,s1.num.set w (s1.cnt + 1),s1.low.set w (s1.cnt + 1),s1.hd,s1.stk ++ [w]⟩,nx2.set v (k + 1),op1.set w true,mg1,s9,c9,by rw [hlen]; exact Nat.le_refl _,by rw [hlen], ?_,fun f2 r2 e => by cases e; exact Nat.zero_le _⟩
        rw [hlen]
        exact ⟨HPU.out.1,HO.out⟩
      ·have w2 : (((nth s1.num w : Nat) : Int) == 0) = false:=by simpa using h0
       have hopw:=HRI.out.1.op w hwn
       obtain ⟨o1,o2, -⟩:=HZ.out.rdO hwn
       have t4:=HZ.out.t.t4
       by_cases h1 : nth s1.hd w < 0
       ·rw [hopw,show decide (nth s1.num w ≠ 0∧nth s1.hd w < 0) = true from decide_eq_true ⟨h0,h1⟩] at o1
        have hback:=HRI.out.1.back (fun _ _ => Iff.rfl) HY2.out.2.ln HRI.out.2.1 HRI.out.2.2.symm hwn h0 h1
        have HBK:=Lib.hid hback
        clear hback hopw h0 h1
        go_upto_region 11 with fail
        have hd:=HZ.out.grow HC.out.1 (grownBy_drew0 Z)
        clear i1 i2 t2 o1 o2 t4
        have v2:=hd.t.t2
        have v3:=hd.t.t3
        obtain ⟨a1,a2,a3⟩:=hd.rdL hfn
        obtain ⟨b1,b2, -⟩:=hd.rdI hwn
        have hst:=hd.setLw HC.out.1 hfn (min (nth s1.low v) (nth s1.num w))
        obtain ⟨la,hla⟩ : ∃ la,la = nth s1.low v:=⟨_,rfl⟩
        obtain ⟨lb,hlb⟩ : ∃ lb,lb = nth s1.num w:=⟨_,rfl⟩
        rw [← hla] at a1
        rw [← hlb] at b1
        rw [← hla, ← hlb,show ((min la lb : Nat) : Int) = min (la : Int) (lb : Int) by omega] at hst
        have HST2:=Lib.hid (And.intro hst (And.intro hla hlb))
        clear hd hst hla hlb
        refine wp_region_mix [0,1,2,3,4,5,6,7,8,9,10,11,12,13,14,15,16,17,18,19] [20,21] (fun w' => w'.cell? ⟨L.bt,2,none⟩ = some (.slice L.si L.n L.ci)∧w'.cell? ⟨L.bt,3,none⟩ = some (.slice L.sl L.n L.cl)∧w'.cell? ⟨blk L.sl,ofs L.sl + v,none⟩ = some (.int .i64 (la : Int))∧w'.cell? ⟨blk L.si,ofs L.si + w,none⟩ = some (.int .i64 (lb : Int))) (by kernel_rfl) (by kernel_rfl) (by kernel_rfl) ⟨v2,v3,a1,b1⟩ ?_
        repeat (
         refine wpHeads_cons (v:=?_) rfl (Or.inl ⟨by rfl, ?_⟩) ?_
         rotate_left
         ·(intro W hW; obtain ⟨q1,q2,q3,q4⟩:=hW; go_simp; try with_reducible rfl)
         simp only [Act.put,List.setIfInBounds_toArray,List.getElem_toArray,List.getElem_cons_zero,List.getElem_cons_succ,List.set_cons_succ,List.set_cons_zero])
        refine wpHeads_nil ?_
        generalize Z.drew = Z1 at *
        refine wpTails_cons rfl ?_
        go_wp2_with fail
        refine tail_mk ⟨v2,v3,a1,b1⟩ ?_
        refine wpTails_one rfl ?_
        go_wp2_with fail
        refine thenQ_mk ?_
        clear v2 v3 a1 a2 a3 b1 b2
        go_wp2_with fail
        go_roundg (rl - (k + 1))
        case measure => omega
        case rel =>
         have hM:=HST2.out.1
         have e9 : s1.low.set v (min la lb) = s1.low.set v (min (nth s1.low v) (nth s1.num w)):=by rw [HST2.out.2.1,HST2.out.2.2]
         rw [e9] at hM
         exact ⟨k + 1,_,nx2.set v (k + 1),by omega,Nat.le_refl _,rfl,⟨HBK.out,hM⟩,HI.out.2⟩
       ·rw [hopw,show decide (nth s1.num w ≠ 0∧nth s1.hd w < 0) = false from decide_eq_false fun h => h1 h.2] at o1
        have hdone:=HRI.out.1.done HY2.out.2.ln HRI.out.2.2.symm h0 (by omega)
        have HDN:=Lib.hid hdone
        clear hdone hopw h0 h1
        go_wp2_with fail
        go_roundg (rl - (k + 1))
        case measure => omega
        case rel => exact ⟨k + 1,_,nx2.set v (k + 1),by omega,Nat.le_refl _,rfl,⟨HDN.out,HZ.out⟩,HI.out.2⟩
     ·obtain rfl : k = rl:=by omega
      have w1 : decide ((k : Int) < (k : Int)) = false:=decide_eq_false (by omega)
      have w1' : decide (k < k) = false:=decide_eq_false (Nat.lt_irrefl k)
      go_upto_region 4 with fail
      go_quiet (fail)
      refine K_gen (fun Y => Both L rw s0 root (⟨v,k,f.s0⟩ :: r) s1 nx2 op1 mg1 (.slice pa P pc) Y) ⟨HI.out.1.1,HI.out.1.2.grow HC.out.1 (grownBy_drewN (grownBy_refl _ _) _)⟩ ?_
      intro Y hY
      have HY:=Lib.hid hY
      clear hY n1 n2 n3 u1 u2 t0 t1 t2 w1 w1'
      have hmr:=HM.out
      have hgl : (castL (grayF (⟨v,k,f.s0⟩ :: r))).length = m + 1:=by rw [castL_len,gray_len,List.length_cons,hmr]
      obtain ⟨qa,qc,hcut,hqb,hqo⟩:=own_cutC sIntG HY.out.2.pt (k:=m) (by rw [hgl]; omega)
      have hqt : (castL (grayF (⟨v,k,f.s0⟩ :: r))).take m = castL (grayF r):=by
       unfold castL
       rw [← List.map_take,hmr,gray_take]
      rw [hqt] at hqo
      have hP1:=HY.out.2.rowPt HC.out.1 (grownBy_refl _ _) (hqo Y HY.out.2.pt) (.inl hqb)
      have hPm : P = m + 1:=by rw [hmr]; exact HP.out.2.1
      have hPle : P ≤ 8192:=by have h1:=HG.out.2.1; have h2:=HG.out.2.2.1; omega
      have hw : IntKind.i64.wrap ((P : Int) - 1) = (m : Int):=by rw [IntWalk.i64_in _ (by omega)]; omega
      have hcut1:=hcut .i64
      have HP1:=Lib.hid (And.intro hP1 (And.intro hPm hmr))
      have hfin:=HY.out.1.ok.1.low1
      have HLOW:=Lib.hid hfin
      have HCN:=Lib.hid HI.out.2
      have hpk : ∀ f2 r2,popF r = f2 :: r2→f2.k ≤ (rw f2.v).length:=by
       have hl:=HY.out.1.ok.2.1
       cases r with
       | nil => intro f2 r2 e; cases e
       | cons g q => intro f2 r2 e; cases e; exact hl.1
      have HPK:=Lib.hid hpk
      clear hcut hqb hqo hqt hP1 hPm hmr hgl hfin hpk HI HU
      cases r with
      | nil =>
        have hm0 : m = 0:=HP1.out.2.2
        have w3 : decide ((0 : Int) < (m : Int)) = false:=decide_eq_false (by omega)
        have w3' : decide (0 < m) = false:=decide_eq_false (by omega)
        clear hm0
        go_upto_region 16 with fail
        obtain ⟨lw',hlw'⟩ : ∃ lw',lw' = popL s1.low v []:=⟨_,rfl⟩
        have HLW:=Lib.hid (show lw' = popL s1.low v []∧nth lw' v = nth s1.low v from ⟨hlw',by rw [hlw']; rfl⟩)
        have HW:=Lib.hid (show ClW L nx2 s1.num lw' op1 s1.stk s1.cnt mg1 (.slice qa m qc) (grayF []) Y by rw [hlw']; exact HP1.out.1)
        clear hlw' hw hcut1 w3 w3'
        obtain ⟨l1,l2, -⟩:=HW.out.rdL hfn
        rw [HLW.out.2] at l1
        obtain ⟨i1,i2, -⟩:=HW.out.rdI hfn
        have t2:=HW.out.t.t2
        have t3:=HW.out.t.t3
        by_cases hlt2 : nth s1.low v < nth s1.num v
        ·have w4 : (((nth s1.low v : Nat) : Int) == ((nth s1.num v : Nat) : Int)) = false:=by simp; omega
         have HRI:=Lib.hid (HY.out.1.leave1 (fun _ _ => Iff.rfl) HRV.out.2 hlt2)
         clear hlt2
         go_quiet (fail)
         refine K_gen (fun Z => ClW L nx2 s1.num lw' op1 s1.stk s1.cnt mg1 (.slice qa m qc) (grayF []) Z) (HW.out.grow HC.out.1 (grownBy_drewN (grownBy_refl _ _) _)) ?_
         intro Z hZ
         have HZ:=Lib.hid hZ
         clear hZ l1 l2 i1 i2 t2 t3 w4
         go_wp2_with fail
         go_roundg (2 * (L.n - s1.cnt) + m)
         case measure => have h1:=HCN.out; have h2:=HG.out.1; have h3:=HP1.out.2.2; omega
         case rel =>
          have hlen : (popF []).length = m:=by rw [popF_len]; exact HP1.out.2.2.symm
          refine ⟨popF [],⟨s1.cnt,s1.num,popL s1.low v [],s1.hd,s1.stk⟩,nx2,op1,mg1,qa,qc,by rw [hlen]; exact Nat.le_refl _,by rw [hlen], ?_,HPK.out⟩
          rw [hlen]
          refine ⟨HRI.out, ?_⟩
          rw [popF_gray, ← HLW.out.1]
          exact HZ.out
        ·have heq : nth s1.low v = nth s1.num v:=by have:=HLOW.out; (try dsimp only at this); omega
         have w4 : (((nth s1.low v : Nat) : Int) == ((nth s1.num v : Nat) : Int)) = true:=by simp [heq]
         obtain ⟨c,st,hst,hcl⟩:=HY.out.1.leave2 (fun _ _ => Iff.rfl) (fun a b hab => (HC.out.2.2.2.1.lt a b hab).2) HC.out.2.2.1 HRV.out.2 hlt2
         dsimp only at hst hcl
         have hI:=HY.out.1.ok.inv.1
         have hnd:=hI.nd
         have hsl:=hI.slen
         have hltn : ∀ x ∈ s1.stk,x < L.n:=fun x hx => hI.lt hx
         have hopn : ∀ x ∈ s1.stk,nth op1 x = true:=fun x hx => by
          rw [HY.out.1.op x (hI.lt hx)]
          have:=(hI.stkm x).1 hx
          exact decide_eq_true ⟨this.2.1,this.2.2⟩
         have hmgle : mg1 ≤ 8192:=by
          rw [HY.out.1.mg]
          unfold offH
          refine Nat.le_trans (List.length_filter_le _ _) ?_
          rw [List.length_range]
          exact Nat.le_trans HC.out.2.2.1 hn8
         have HCL:=Lib.hid (And.intro hst (And.intro hcl (And.intro hnd (And.intro hltn (And.intro hopn (And.intro hsl hmgle))))))
         clear hlt2 heq hst hcl hI hnd hsl hltn hopn hmgle
         go_quiet (fail)
         refine K_gen (fun Z => ClW L nx2 s1.num lw' op1 s1.stk s1.cnt mg1 (.slice qa m qc) (grayF []) Z) (HW.out.grow HC.out.1 (grownBy_drewN (grownBy_refl _ _) _)) ?_
         intro Z hZ
         have HZ:=Lib.hid hZ
         clear hZ l1 l2 i1 i2 t2 t3 w4
         go_wp2_with fail
         refine (close_any L HC.out.1 nx2 s1.num lw' op1 s1.stk st c s1.cnt mg1 (.slice qa m qc) (grayF []) v Z HZ.out HCL.out.1 HCL.out.2.2.1 HCL.out.2.2.2.1 HCL.out.2.2.2.2.1 (by have:=HCL.out.2.2.2.2.2.1; omega)).mono ?_
         rintro e Z2 ⟨rfl,op',hop',h2⟩
         obtain ⟨SN,hSN⟩ : ∃ SN,SN = s1.stk.length:=⟨_,rfl⟩
         obtain ⟨sn0,hsn0⟩ : ∃ sn0,sn0 = st.length:=⟨_,rfl⟩
         obtain ⟨el,hel⟩ : ∃ el,el = (v :: c).length:=⟨_,rfl⟩
         have hlen3 : SN = sn0 + el:=by rw [hSN,hsn0,hel,HCL.out.1,List.length_append]
         have hel0 : 0 < el:=by rw [hel]; simp
         have hSN8 : SN ≤ 8192:=by rw [hSN]; exact Nat.le_trans HCL.out.2.2.2.2.2.1 hn8
         obtain ⟨sv,t5,t6, -⟩:=h2.sv
         obtain ⟨sa,sc,rfl⟩:=t6.shape (n:=SN) (by rw [castL_len,hSN])
         have hdrop : (castL s1.stk).drop sn0 = castL (v :: c):=by
          rw [HCL.out.1,hsn0]; unfold castL; rw [List.map_append,List.drop_append_of_le_length (by rw [List.length_map]; exact Nat.le_refl _),List.drop_eq_nil_of_le (by rw [List.length_map]; exact Nat.le_refl _)]; rfl
         obtain ⟨ca,cc,hcut2, -,hci⟩:=t6.cutRest sIntG (k:=sn0) (by rw [castL_len, ← hSN]; omega)
         rw [castL_len, ← hSN,show SN - sn0 = el by omega] at hcut2 hci
         rw [hdrop] at hci
         have hcut3:=hcut2 .i64
         have HCC:=Lib.hid (And.intro (hci Z2 t6) (And.intro hop' (And.intro h2 (And.intro hSN (And.intro hsn0 (And.intro hel hlen3))))))
         rw [← hsn0]
         clear hcut2 hci hop' h2 hSN hsn0 hel hlen3 hdrop t6
         go_wp2_with fail
         refine (each_any L HC.out.1 HC.out.2.1 nx2 s1.num lw' op' s1.stk s1.cnt mg1 (.slice qa m qc) (grayF []) Z2 HCC.out.2.2.1 (.slice ca el cc) (v :: c) HCC.out.1 (by have h1:=HCC.out.2.2.2.2.2.1; have h2:=HCC.out.2.2.2.2.2.2; omega) (by have:=HCL.out.2.2.2.2.2.2; omega)).mono ?_
         rintro e Z3 ⟨rfl,h3⟩
         obtain ⟨sv,t5',t6,s3⟩:=h3.sv
         have f5:=h3.t.tf 5
         obtain ⟨sa3,sc3,rfl⟩:=t6.shape (n:=SN) (by rw [castL_len,HCC.out.2.2.2.1])
         obtain ⟨ta,tc,hcut4,htb,hto⟩:=own_cutC sIntG t6 (k:=sn0) (by rw [castL_len, ← HCC.out.2.2.2.1]; have:=HCC.out.2.2.2.2.2.2; omega)
         have htake : (castL s1.stk).take sn0 = castL st:=by
          rw [HCL.out.1,HCC.out.2.2.2.2.1]; unfold castL; rw [List.map_append,List.take_append_of_le_length (by rw [List.length_map]; exact Nat.le_refl _),List.take_of_length_le (by rw [List.length_map]; exact Nat.le_refl _)]
         rw [htake] at hto
         have hcut5:=hcut4 .i64
         have h4:=h3.setSk HC.out.1 (hto Z3 t6) (fun q hq e => s3 q hq (by rw [← htb]; exact e))
         have H4:=Lib.hid h4
         clear hcut4 htb hto htake h4 h3 t6 s3 t5 hcut3
         go_wp2_with fail
         go_roundg (2 * (L.n - s1.cnt) + m)
         case measure => have h1:=HCN.out; have h2:=HG.out.1; have h3:=HP1.out.2.2; omega
         case rel =>
          have hlen : (popF []).length = m:=by rw [popF_len]; exact HP1.out.2.2.symm
          obtain ⟨hd',hRI⟩:=HCL.out.2.1 op' HCC.out.2.1
          refine ⟨popF [],⟨s1.cnt,s1.num,popL s1.low v [],hd',st⟩,nx2,op',mg1 + (below L.vars.toNat (v :: c) - 1),qa,qc,by rw [hlen]; exact Nat.le_refl _,by rw [hlen], ?_,HPK.out⟩
          rw [hlen]
          refine ⟨hRI, ?_⟩
          rw [popF_gray, ← HLW.out.1]
          exact H4.out
      | cons g q =>
        have hm1 : m = q.length + 1:=HP1.out.2.2
        have w3 : decide ((0 : Int) < (m : Int)) = true:=decide_eq_true (by omega)
        have w3' : decide (0 < m) = true:=decide_eq_true (by omega)
        obtain ⟨ql,hql⟩ : ∃ ql,ql = q.length:=⟨_,rfl⟩
        have hgl : (castL (grayF (g :: q))).length = m:=by rw [castL_len,gray_len,hm1]; rfl
        obtain ⟨p1,p2, -⟩:=own_int HP1.out.1.pt hgl (x:=ql) (by omega)
        rw [castL_nth (by rw [gray_len,hql]; simp),hql,gray_last, ← hql] at p1
        have hmle : m ≤ 8192:=by have:=HP1.out.2.1; omega
        have hw2 : IntKind.i64.wrap ((m : Int) - 1) = (ql : Int):=by rw [IntWalk.i64_in _ (by omega)]; omega
        have hgn:=HY.out.1.ok.tail_lt
        have hgv : g.v ≠ v:=HY.out.1.ok.apart g (by simp)
        obtain ⟨u,hu⟩ : ∃ u,u = g.v:=⟨_,rfl⟩
        have HUG:=Lib.hid hu
        rw [← hu] at p1 hgn hgv
        clear hm1 hql hgl hu hPle
        go_upto_region 15 with fail
        clear hw hw2 hcut1 w3 w3' p1 p2
        have hd:=HP1.out.1.grow HC.out.1 (grownBy_drew0 Y)
        have v3:=hd.t.t3
        obtain ⟨a1,a2,a3⟩:=hd.rdL hgn
        obtain ⟨b1,b2, -⟩:=hd.rdL hfn
        have hst:=hd.setLw HC.out.1 hgn (min (nth s1.low u) (nth s1.low v))
        obtain ⟨la,hla⟩ : ∃ la,la = nth s1.low u:=⟨_,rfl⟩
        obtain ⟨lb,hlb⟩ : ∃ lb,lb = nth s1.low v:=⟨_,rfl⟩
        rw [← hla] at a1
        rw [← hlb] at b1
        rw [← hla, ← hlb,show ((min la lb : Nat) : Int) = min (la : Int) (lb : Int) by omega] at hst
        have HST2:=Lib.hid (And.intro hst (And.intro hla (And.intro hlb hd.le)))
        clear hd hst hla hlb
        refine wp_region_mix [0,1,2,3,4,5,6,7,8,9,10,11,12,13,14,15,16,17,18,19] [20,21] (fun w' => w'.cell? ⟨L.bt,3,none⟩ = some (.slice L.sl L.n L.cl)∧w'.cell? ⟨blk L.sl,ofs L.sl + u,none⟩ = some (.int .i64 (la : Int))∧w'.cell? ⟨blk L.sl,ofs L.sl + v,none⟩ = some (.int .i64 (lb : Int))) (by kernel_rfl) (by kernel_rfl) (by kernel_rfl) ⟨v3,a1,b1⟩ ?_
        repeat (
         refine wpHeads_cons (v:=?_) rfl (Or.inl ⟨by rfl, ?_⟩) ?_
         rotate_left
         ·(intro W hW; obtain ⟨q1,q2,q3⟩:=hW; go_simp; try with_reducible rfl)
         simp only [Act.put,List.setIfInBounds_toArray,List.getElem_toArray,List.getElem_cons_zero,List.getElem_cons_succ,List.set_cons_succ,List.set_cons_zero])
        refine wpHeads_nil ?_
        generalize Y.drew = Y1 at *
        refine wpTails_cons rfl ?_
        go_wp2_with fail
        refine tail_mk ⟨v3,a1,b1⟩ ?_
        refine wpTails_one rfl ?_
        go_wp2_with fail
        refine thenQ_mk ?_
        clear v3 a1 a2 a3 b1 b2
        go_upto_region 16 with fail
        obtain ⟨lw',hlw'⟩ : ∃ lw',lw' = popL s1.low v (g :: q):=⟨_,rfl⟩
        have hlv : nth lw' v = nth s1.low v:=by
         rw [hlw']
         show nth (s1.low.set g.v _) v = _
         rw [nth_set,if_neg fun e => hgv (by rw [HUG.out]; exact e.1)]
        have HLW:=Lib.hid (show lw' = popL s1.low v (g :: q)∧nth lw' v = nth s1.low v from ⟨hlw',hlv⟩)
        have e9 : s1.low.set u (min la lb) = lw':=by rw [hlw',HST2.out.2.1,HST2.out.2.2.1,HUG.out]; rfl
        have hWW:=HST2.out.1
        rw [e9] at hWW
        refine gen_code (fun Z => ClW L nx2 s1.num lw' op1 s1.stk s1.cnt mg1 (.slice qa m qc) (grayF (g :: q)) Z) hWW ?_
        intro Y9 hY9
        have HW:=Lib.hid hY9
        clear hlw' hlv e9 hWW hY9
        obtain ⟨l1,l2, -⟩:=HW.out.rdL hfn
        rw [HLW.out.2] at l1
        obtain ⟨i1,i2, -⟩:=HW.out.rdI hfn
        have t2:=HW.out.t.t2
        have t3:=HW.out.t.t3
        by_cases hlt2 : nth s1.low v < nth s1.num v
        ·have w4 : (((nth s1.low v : Nat) : Int) == ((nth s1.num v : Nat) : Int)) = false:=by simp; omega
         have HRI:=Lib.hid (HY.out.1.leave1 (fun _ _ => Iff.rfl) HRV.out.2 hlt2)
         clear hlt2
         go_quiet (fail)
         refine K_gen (fun Z => ClW L nx2 s1.num lw' op1 s1.stk s1.cnt mg1 (.slice qa m qc) (grayF (g :: q)) Z) (HW.out.grow HC.out.1 (grownBy_drewN (grownBy_refl _ _) _)) ?_
         intro Z hZ
         have HZ:=Lib.hid hZ
         clear hZ l1 l2 i1 i2 t2 t3 w4
         go_wp2_with fail
         go_roundg (2 * (L.n - s1.cnt) + m)
         case measure => have h1:=HCN.out; have h2:=HG.out.1; have h3:=HP1.out.2.2; omega
         case rel =>
          have hlen : (popF (g :: q)).length = m:=by rw [popF_len]; exact HP1.out.2.2.symm
          refine ⟨popF (g :: q),⟨s1.cnt,s1.num,popL s1.low v (g :: q),s1.hd,s1.stk⟩,nx2,op1,mg1,qa,qc,by rw [hlen]; exact Nat.le_refl _,by rw [hlen], ?_,HPK.out⟩
          rw [hlen]
          refine ⟨HRI.out, ?_⟩
          rw [popF_gray, ← HLW.out.1]
          exact HZ.out
        ·have heq : nth s1.low v = nth s1.num v:=by have:=HLOW.out; (try dsimp only at this); omega
         have w4 : (((nth s1.low v : Nat) : Int) == ((nth s1.num v : Nat) : Int)) = true:=by simp [heq]
         obtain ⟨c,st,hst,hcl⟩:=HY.out.1.leave2 (fun _ _ => Iff.rfl) (fun a b hab => (HC.out.2.2.2.1.lt a b hab).2) HC.out.2.2.1 HRV.out.2 hlt2
         dsimp only at hst hcl
         have hI:=HY.out.1.ok.inv.1
         have hnd:=hI.nd
         have hsl:=hI.slen
         have hltn : ∀ x ∈ s1.stk,x < L.n:=fun x hx => hI.lt hx
         have hopn : ∀ x ∈ s1.stk,nth op1 x = true:=fun x hx => by
          rw [HY.out.1.op x (hI.lt hx)]
          have:=(hI.stkm x).1 hx
          exact decide_eq_true ⟨this.2.1,this.2.2⟩
         have hmgle : mg1 ≤ 8192:=by
          rw [HY.out.1.mg]
          unfold offH
          refine Nat.le_trans (List.length_filter_le _ _) ?_
          rw [List.length_range]
          exact Nat.le_trans HC.out.2.2.1 hn8
         have HCL:=Lib.hid (And.intro hst (And.intro hcl (And.intro hnd (And.intro hltn (And.intro hopn (And.intro hsl hmgle))))))
         clear hlt2 heq hst hcl hI hnd hsl hltn hopn hmgle
         go_quiet (fail)
         refine K_gen (fun Z => ClW L nx2 s1.num lw' op1 s1.stk s1.cnt mg1 (.slice qa m qc) (grayF (g :: q)) Z) (HW.out.grow HC.out.1 (grownBy_drewN (grownBy_refl _ _) _)) ?_
         intro Z hZ
         have HZ:=Lib.hid hZ
         clear hZ l1 l2 i1 i2 t2 t3 w4
         go_wp2_with fail
         refine (close_any L HC.out.1 nx2 s1.num lw' op1 s1.stk st c s1.cnt mg1 (.slice qa m qc) (grayF (g :: q)) v Z HZ.out HCL.out.1 HCL.out.2.2.1 HCL.out.2.2.2.1 HCL.out.2.2.2.2.1 (by have:=HCL.out.2.2.2.2.2.1; omega)).mono ?_
         rintro e Z2 ⟨rfl,op',hop',h2⟩
         obtain ⟨SN,hSN⟩ : ∃ SN,SN = s1.stk.length:=⟨_,rfl⟩
         obtain ⟨sn0,hsn0⟩ : ∃ sn0,sn0 = st.length:=⟨_,rfl⟩
         obtain ⟨el,hel⟩ : ∃ el,el = (v :: c).length:=⟨_,rfl⟩
         have hlen3 : SN = sn0 + el:=by rw [hSN,hsn0,hel,HCL.out.1,List.length_append]
         have hel0 : 0 < el:=by rw [hel]; simp
         have hSN8 : SN ≤ 8192:=by rw [hSN]; exact Nat.le_trans HCL.out.2.2.2.2.2.1 hn8
         obtain ⟨sv,t5,t6, -⟩:=h2.sv
         obtain ⟨sa,sc,rfl⟩:=t6.shape (n:=SN) (by rw [castL_len,hSN])
         have hdrop : (castL s1.stk).drop sn0 = castL (v :: c):=by
          rw [HCL.out.1,hsn0]; unfold castL; rw [List.map_append,List.drop_append_of_le_length (by rw [List.length_map]; exact Nat.le_refl _),List.drop_eq_nil_of_le (by rw [List.length_map]; exact Nat.le_refl _)]; rfl
         obtain ⟨ca,cc,hcut2, -,hci⟩:=t6.cutRest sIntG (k:=sn0) (by rw [castL_len, ← hSN]; omega)
         rw [castL_len, ← hSN,show SN - sn0 = el by omega] at hcut2 hci
         rw [hdrop] at hci
         have hcut3:=hcut2 .i64
         have HCC:=Lib.hid (And.intro (hci Z2 t6) (And.intro hop' (And.intro h2 (And.intro hSN (And.intro hsn0 (And.intro hel hlen3))))))
         rw [← hsn0]
         clear hcut2 hci hop' h2 hSN hsn0 hel hlen3 hdrop t6
         go_wp2_with fail
         refine (each_any L HC.out.1 HC.out.2.1 nx2 s1.num lw' op' s1.stk s1.cnt mg1 (.slice qa m qc) (grayF (g :: q)) Z2 HCC.out.2.2.1 (.slice ca el cc) (v :: c) HCC.out.1 (by have h1:=HCC.out.2.2.2.2.2.1; have h2:=HCC.out.2.2.2.2.2.2; omega) (by have:=HCL.out.2.2.2.2.2.2; omega)).mono ?_
         rintro e Z3 ⟨rfl,h3⟩
         obtain ⟨sv,t5',t6,s3⟩:=h3.sv
         have f5:=h3.t.tf 5
         obtain ⟨sa3,sc3,rfl⟩:=t6.shape (n:=SN) (by rw [castL_len,HCC.out.2.2.2.1])
         obtain ⟨ta,tc,hcut4,htb,hto⟩:=own_cutC sIntG t6 (k:=sn0) (by rw [castL_len, ← HCC.out.2.2.2.1]; have:=HCC.out.2.2.2.2.2.2; omega)
         have htake : (castL s1.stk).take sn0 = castL st:=by
          rw [HCL.out.1,HCC.out.2.2.2.2.1]; unfold castL; rw [List.map_append,List.take_append_of_le_length (by rw [List.length_map]; exact Nat.le_refl _),List.take_of_length_le (by rw [List.length_map]; exact Nat.le_refl _)]
         rw [htake] at hto
         have hcut5:=hcut4 .i64
         have h4:=h3.setSk HC.out.1 (hto Z3 t6) (fun q hq e => s3 q hq (by rw [← htb]; exact e))
         have H4:=Lib.hid h4
         clear hcut4 htb hto htake h4 h3 t6 s3 t5 hcut3
         go_wp2_with fail
         go_roundg (2 * (L.n - s1.cnt) + m)
         case measure => have h1:=HCN.out; have h2:=HG.out.1; have h3:=HP1.out.2.2; omega
         case rel =>
          have hlen : (popF (g :: q)).length = m:=by rw [popF_len]; exact HP1.out.2.2.symm
          obtain ⟨hd',hRI⟩:=HCL.out.2.1 op' HCC.out.2.1
          refine ⟨popF (g :: q),⟨s1.cnt,s1.num,popL s1.low v (g :: q),hd',st⟩,nx2,op',mg1 + (below L.vars.toNat (v :: c) - 1),qa,qc,by rw [hlen]; exact Nat.le_refl _,by rw [hlen], ?_,HPK.out⟩
          rw [hlen]
          refine ⟨hRI, ?_⟩
          rw [popF_gray, ← HLW.out.1]
          exact H4.out
end Go.Proofs.YtgblfjccccdidaaGreat
end
