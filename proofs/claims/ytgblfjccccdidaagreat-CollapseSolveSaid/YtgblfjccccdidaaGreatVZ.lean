/- CollapseSolve: for any system with at most 24 variables, 6 sites and 3 fields, the least solution and the number of merged variables are those of the reference. Conditions: none. -/
import Derived.Test.YtgblfjccccdidaaGreatVZe
section
namespace Go.And
open Go.Dfl (nth nth_mem mem_nth nth_eq)
theorem holds1 {S : Syst} {p : Nat→Nat→Prop} {a b f : Nat} {s : List Nat} : Holds S p ⟨1,a,b,f,s⟩ ↔ p b a:=by simp [Holds]
theorem holds2 {S : Syst} {p : Nat→Nat→Prop} {a b f : Nat} {s : List Nat} : Holds S p ⟨2,a,b,f,s⟩ ↔ ∀ x,p a x→p b x:=by simp [Holds]
theorem holds3 {S : Syst} {p : Nat→Nat→Prop} {a b f : Nat} {s : List Nat} : Holds S p ⟨3,a,b,f,s⟩ ↔ ∀ y,p a y→∀ x,p (S.cell y f) x→p b x:=by simp [Holds]
theorem holds4 {S : Syst} {p : Nat→Nat→Prop} {a b f : Nat} {s : List Nat} : Holds S p ⟨4,a,b,f,s⟩ ↔ ∀ y,p b y→∀ x,p a x→p (S.cell y f) x:=by simp [Holds]
theorem holds5 {S : Syst} {p : Nat→Nat→Prop} {a b f : Nat} {s : List Nat} : Holds S p ⟨5,a,b,f,s⟩ ↔ ∀ x,p a x→x ∈ s→p b x:=by simp [Holds]
end Go.And
namespace Go.Proofs.YtgblfjccccdidaaGreat
open Go.RowKit Go.Dfl Go.And
set_option maxHeartbeats 6400000 in
set_option maxRecDepth 100000 in
theorem tapply_any {S : Syst} {cv : Value} {tb : Nat} {ha : Option Addr} {hc : Nat} {vs : List Value} {M : List (List Bool)} {b : Bool} {W : World} (h : TbM S cv tb ha hc vs M b W) (c : C) (hok : c.Ok S) (hB : S.vars ≤ 40∧S.sites ≤ 12∧S.fields ≤ 5∧S.N ≤ 100)
  (sa : Option Addr) (sc : Nat) (hset : ∀ Z,Below tb W Z→Ints Z (.slice sa c.s.length sc) (c.s.map fun x : Nat => (x : Int))) (hl : c.s.length ≤ 1000000) :
  Calls Tryz.prog 56 #[.pointer (some ⟨tb,0,none⟩),.agg #[.int .i64 (c.k : Int),.int .i64 (c.a : Int),.int .i64 (c.b : Int),.int .i64 (c.f : Int),.slice sa c.s.length sc]] W (TDoes S cv tb ha hc vs (fun p => Holds S p c) M b W):=by
 obtain ⟨bv,bsi,bf,bN⟩:=hB
 have HX:=Lib.hid (And.intro h (And.intro hok hset))
 have hck:=hok.kind
 have hbN:=vN hok.b
 clear h hok hset
 obtain ⟨ck,c_a,c_b,c_f,c_s⟩:=c
 dsimp only at *
 have hk5 : ck = 1 ∨ ck = 2 ∨ ck = 3 ∨ ck = 4 ∨ ck = 5:=by omega
 clear hck
 rcases hk5 with rfl | rfl | rfl | rfl | rfl
 ·have ha1 : c_a < S.sites:=by have h:=HX.out.2.1.a; simpa using h
  go_enter Tryz.func56,Tryz.ntmps56
  go_wp2_with fail
  refine (tput_any (HX.out.1.keep (grownBy_alloc _ _)) c_b c_a hbN ha1).mono ?_
  rintro e W2 ⟨⟨v2,rfl⟩,M2,b2,hT2,hS2,hK2⟩
  have H2:=Lib.hid (And.intro hT2 (And.intro hS2 hK2))
  clear hT2 hS2 hK2
  go_wp2_with fail
  go_end0
  exact ⟨⟨_,rfl⟩,M2,b2,H2.out.1,H2.out.2.1.mono (fun p hp => holds1.1 hp) (fun hp => holds1.2 hp),(Kpt.grown (grownBy_alloc _ _) (by simp)).trans H2.out.2.2⟩
 ·have ha1 : c_a < S.N:=vN (by have h:=HX.out.2.1.a; simpa using h)
  go_enter Tryz.func56,Tryz.ntmps56
  go_wp2_with fail
  refine (tflow_any (HX.out.1.keep (grownBy_alloc _ _)) c_a c_b ha1 hbN (by omega)).mono ?_
  rintro e W2 ⟨⟨v2,rfl⟩,M2,b2,hT2,hS2,hK2⟩
  have H2:=Lib.hid (And.intro hT2 (And.intro hS2 hK2))
  clear hT2 hS2 hK2
  go_wp2_with fail
  go_end0
  exact ⟨⟨_,rfl⟩,M2,b2,H2.out.1,H2.out.2.1.mono (fun p hp => holds2.1 hp) (fun hp => holds2.2 hp),(Kpt.grown (grownBy_alloc _ _) (by simp)).trans H2.out.2.2⟩
 ·have ha1 : c_a < S.N:=vN (by have h:=HX.out.2.1.a; simpa using h)
  have hf : c_f < S.fields:=HX.out.2.1.f (.inl rfl)
  rw [show ((3 : Nat) : Int) = 3 from rfl]
  go_enter Tryz.func56,Tryz.ntmps56
  go_wp2_with fail
  refine wp_gen (fun Z => TbM S cv tb ha hc vs M b Z∧Kpt tb (.slice ha S.N hc) vs W Z∧BoxC Z W.heap.size 3 c_a c_b c_f (.slice sa c_s.length sc)) ⟨HX.out.1.keep (grownBy_alloc _ _),Kpt.grown (grownBy_alloc _ _) (by simp),BoxC.new W 3 c_a c_b c_f _ _⟩ ?_
  rintro W1 h1
  have hbw0 : W.heap.size ≠ tb∧¬ Foot (.slice ha S.N hc) vs W.heap.size:=⟨by have:=World.block_lt_of_cell? W _ HX.out.1.s0; simp at this; omega,fun hf => by have:=(HX.out.1.foot _ hf).2; omega⟩
  obtain ⟨bw,hbw⟩ : ∃ bw,bw = W.heap.size:=⟨_,rfl⟩
  rw [← hbw] at h1 hbw0 ⊢
  have H1:=Lib.hid h1
  have HBW:=Lib.hid hbw0
  clear h1 hbw hbw0
  go_loopw [5] (fun x wr => ∃ k : Nat,k ≤ S.sites∧x = .int .i64 k∧Hid (∃ M' b',TbM S cv tb ha hc vs M' b' wr∧TStp S.N S.sites (fun p => ∀ y,y < k→p c_a y→∀ x,p (S.cell y c_f) x→p c_b x) M M' b b'∧Kpt tb (.slice ha S.N hc) vs W wr∧BoxC wr bw 3 c_a c_b c_f (.slice sa c_s.length sc))) (fun x _ => S.sites - (intOf x).toNat)
  case atStart => exact ⟨0,by omega,rfl,M,b,H1.out.1,TStp.refl H1.out.1.shp fun _ y hy => by omega,H1.out.2.1,H1.out.2.2⟩
  case round =>
   obtain ⟨k,hk,rfl,hh⟩:=hrel
   obtain ⟨M',b',hT,hS,hK,hB⟩:=hh.out
   clear hh
   have s1:=hT.s1
   by_cases hlt : k < S.sites
   ·obtain ⟨a,c,e2,i1,d1,i2,h2⟩:=hT.rd (i:=c_a) ha1
    obtain ⟨d2,f2,ft⟩:=h2 k hlt
    have d0:=hT.has
    obtain ⟨q1,q2,q3,q4,q5⟩:=hB
    have HH:=Lib.hid (And.intro hT (And.intro hS (And.intro hK (show BoxC wr bw 3 c_a c_b c_f (.slice sa c_s.length sc) from ⟨q1,q2,q3,q4,q5⟩))))
    clear hT hS hK e2 h2 ft f2
    generalize htg : tg M' c_a k = t at *
    have HT:=Lib.hid htg
    clear htg
    cases t
    ·go_wp2_with fail
     go_quiet (fail)
     go_wp2_with fail
     go_roundw
     case rel => exact ⟨k + 1,by omega,by go_num,M',b',HH.out.1.keep (grownBy_qt (by first | exact Qt.refl _ | exact Qt.drewN _ _ | exact (Qt.drewN _ _).trans (Qt.drewN _ _) | exact ((Qt.drewN _ _).trans (Qt.drewN _ _)).trans (Qt.drewN _ _) | exact Qt.drew _ | exact (Qt.drewN _ _).trans (Qt.drew _))),HH.out.2.1.mono (fun p hp y hy => hp y (by omega)) (fun hp y hy hpy => by
      by_cases e : y = k
      ·subst e
       have h3 : tg M' c_a y = true:=HH.out.2.1.le _ _ hpy
       rw [HT.out] at h3; cases h3
      ·exact hp y (by omega) hpy),HH.out.2.2.1.trans (Kpt.grown (grownBy_qt (by first | exact Qt.refl _ | exact Qt.drewN _ _ | exact (Qt.drewN _ _).trans (Qt.drewN _ _) | exact ((Qt.drewN _ _).trans (Qt.drewN _ _)).trans (Qt.drewN _ _) | exact Qt.drew _ | exact (Qt.drewN _ _).trans (Qt.drew _))) (by simp)),HH.out.2.2.2.grown (grownBy_qt (by first | exact Qt.refl _ | exact Qt.drewN _ _ | exact (Qt.drewN _ _).trans (Qt.drewN _ _) | exact ((Qt.drewN _ _).trans (Qt.drewN _ _)).trans (Qt.drewN _ _) | exact Qt.drew _ | exact (Qt.drewN _ _).trans (Qt.drew _))) (by simp)⟩
     case measure => simp [intOf]; omega
    ·go_wp2_with fail
     go_quiet (fail)
     go_wp2_with fail
     refine wp_gen (fun Z => Qt wr Z) (by first | exact Qt.refl _ | exact Qt.drewN _ _ | exact (Qt.drewN _ _).trans (Qt.drewN _ _) | exact ((Qt.drewN _ _).trans (Qt.drewN _ _)).trans (Qt.drewN _ _) | exact Qt.drew _ | exact (Qt.drewN _ _).trans (Qt.drew _)) ?_
     rintro W5 q55
     have g5:=grownBy_qt q55
     have H5:=Lib.hid (And.intro (HH.out.1.keep g5) (And.intro (HH.out.2.2.1.trans (Kpt.grown g5 (by simp))) (HH.out.2.2.2.grown g5 (by simp))))
     clear q1 q2 q3 q4 q5 d0 d1 d2 s1 i1 i2 g5 q55
     refine wp_region_mix [0,1,2,3,4,6,7] [5,8] (fun w' => BoxC w' bw 3 c_a c_b c_f (.slice sa c_s.length sc)) (by kernel_rfl) (by kernel_rfl) (by kernel_rfl) (H5.out.2.2.grown (grownBy_drew0 _) (by simp)) ?_
     repeat (
      refine wpHeads_cons (v:=?_) rfl (Or.inl ⟨by rfl, ?_⟩) ?_
      rotate_left
      ·(intro W hW; obtain ⟨q1,q2,q3,q4,q5⟩:=hW; go_simp; try with_reducible rfl)
      simp only [Act.put,List.setIfInBounds_toArray])
     refine wpHeads_nil ?_
     refine wpTails_cons rfl ?_
     go_wp2_with fail
     obtain ⟨nn,hnn,hcl7⟩:=tcell_any (H5.out.1.keep (grownBy_drew0 _)) k c_f (by omega) (by omega) (by omega) (by omega)
     refine hcl7.mono ?_
     rintro e W7 ⟨rfl,q7⟩
     have g7 : W5.grownBy W7 none:=grownBy_trans (grownBy_drew0 _) (grownBy_qt q7)
     have H7:=Lib.hid (And.intro (H5.out.1.keep g7) (And.intro (H5.out.2.1.trans (Kpt.grown g7 (by simp))) (And.intro (H5.out.2.2.grown g7 (by simp)) hnn)))
     have hnN : nn < S.N:=by rw [hnn]; exact Syst.cell_lt hlt hf
     clear g7 q7 hcl7 hnn
     go_wp2_with fail
     refine tail_mk H7.out.2.2.1 ?_
     refine wpTails_one rfl ?_
     go_wp2_with fail
     refine (tflow_any H7.out.1 nn c_b hnN hbN (by omega)).mono ?_
     rintro e W8 ⟨⟨v2,rfl⟩,M2,b2,hT2,hS2,hK2⟩
     have hB8 : BoxC W8 bw 3 c_a c_b c_f (.slice sa c_s.length sc):=by
      obtain ⟨r1,r2,r3,r4,r5⟩:=H7.out.2.2.1
      exact ⟨hK2.cell r1 HBW.out.1 HBW.out.2,hK2.cell r2 HBW.out.1 HBW.out.2,hK2.cell r3 HBW.out.1 HBW.out.2,hK2.cell r4 HBW.out.1 HBW.out.2,hK2.cell r5 HBW.out.1 HBW.out.2⟩
     rw [H7.out.2.2.2] at hS2
     have H8:=Lib.hid (And.intro hT2 (And.intro hS2 (And.intro (H7.out.2.1.trans hK2) hB8)))
     clear hT2 hS2 hK2 hB8
     go_wp2_with fail
     refine thenQ_mk ?_
     go_wp2_with fail
     go_roundw
     case rel => exact ⟨k + 1,by omega,by go_num,M2,b2,H8.out.1,HH.out.2.1.thenW H8.out.2.1 _ (fun p hp y hy => hp y (by omega)) (fun p hs hp => hp k (by omega) (hs _ _ HT.out)) (fun hF hG y hy hpy => by
      by_cases e : y = k
      ·subst e; exact hG
      ·exact hF y (by omega) hpy),H8.out.2.2.1,H8.out.2.2.2⟩
     case measure => simp [intOf]; omega
   ·obtain rfl : k = S.sites:=by omega
    have HH:=Lib.hid (And.intro hT (And.intro hS hK))
    clear hT hS hK hB
    go_wp2_with fail
    go_end0
    exact ⟨⟨_,rfl⟩,M',b',HH.out.1,HH.out.2.1.mono (fun p hp y _ => holds3.1 hp y) (fun hp => holds3.2 fun y hy => hp y (tg_lt HX.out.1.shp hy).2 hy),HH.out.2.2⟩
 ·have ha1 : c_a < S.N:=vN (by have h:=HX.out.2.1.a; simpa using h)
  have hf : c_f < S.fields:=HX.out.2.1.f (.inr rfl)
  rw [show ((4 : Nat) : Int) = 4 from rfl]
  go_enter Tryz.func56,Tryz.ntmps56
  go_wp2_with fail
  refine wp_gen (fun Z => TbM S cv tb ha hc vs M b Z∧Kpt tb (.slice ha S.N hc) vs W Z∧BoxC Z W.heap.size 4 c_a c_b c_f (.slice sa c_s.length sc)) ⟨HX.out.1.keep (grownBy_alloc _ _),Kpt.grown (grownBy_alloc _ _) (by simp),BoxC.new W 4 c_a c_b c_f _ _⟩ ?_
  rintro W1 h1
  have hbw0 : W.heap.size ≠ tb∧¬ Foot (.slice ha S.N hc) vs W.heap.size:=⟨by have:=World.block_lt_of_cell? W _ HX.out.1.s0; simp at this; omega,fun hf => by have:=(HX.out.1.foot _ hf).2; omega⟩
  obtain ⟨bw,hbw⟩ : ∃ bw,bw = W.heap.size:=⟨_,rfl⟩
  rw [← hbw] at h1 hbw0 ⊢
  have H1:=Lib.hid h1
  have HBW:=Lib.hid hbw0
  clear h1 hbw hbw0
  go_loopw [6] (fun x wr => ∃ k : Nat,k ≤ S.sites∧x = .int .i64 k∧Hid (∃ M' b',TbM S cv tb ha hc vs M' b' wr∧TStp S.N S.sites (fun p => ∀ y,y < k→p c_b y→∀ x,p c_a x→p (S.cell y c_f) x) M M' b b'∧Kpt tb (.slice ha S.N hc) vs W wr∧BoxC wr bw 4 c_a c_b c_f (.slice sa c_s.length sc))) (fun x _ => S.sites - (intOf x).toNat)
  case atStart => exact ⟨0,by omega,rfl,M,b,H1.out.1,TStp.refl H1.out.1.shp fun _ y hy => by omega,H1.out.2.1,H1.out.2.2⟩
  case round =>
   obtain ⟨k,hk,rfl,hh⟩:=hrel
   obtain ⟨M',b',hT,hS,hK,hB⟩:=hh.out
   clear hh
   have s1:=hT.s1
   by_cases hlt : k < S.sites
   ·obtain ⟨a,c,e2,i1,d1,i2,h2⟩:=hT.rd (i:=c_b) hbN
    obtain ⟨d2,f2,ft⟩:=h2 k hlt
    have d0:=hT.has
    obtain ⟨q1,q2,q3,q4,q5⟩:=hB
    have HH:=Lib.hid (And.intro hT (And.intro hS (And.intro hK (show BoxC wr bw 4 c_a c_b c_f (.slice sa c_s.length sc) from ⟨q1,q2,q3,q4,q5⟩))))
    clear hT hS hK e2 h2 ft f2
    generalize htg : tg M' c_b k = t at *
    have HT:=Lib.hid htg
    clear htg
    cases t
    ·go_wp2_with fail
     go_quiet (fail)
     go_wp2_with fail
     go_roundw
     case rel => exact ⟨k + 1,by omega,by go_num,M',b',HH.out.1.keep (grownBy_qt (by first | exact Qt.refl _ | exact Qt.drewN _ _ | exact (Qt.drewN _ _).trans (Qt.drewN _ _) | exact ((Qt.drewN _ _).trans (Qt.drewN _ _)).trans (Qt.drewN _ _) | exact Qt.drew _ | exact (Qt.drewN _ _).trans (Qt.drew _))),HH.out.2.1.mono (fun p hp y hy => hp y (by omega)) (fun hp y hy hpy => by
      by_cases e : y = k
      ·subst e
       have h3 : tg M' c_b y = true:=HH.out.2.1.le _ _ hpy
       rw [HT.out] at h3; cases h3
      ·exact hp y (by omega) hpy),HH.out.2.2.1.trans (Kpt.grown (grownBy_qt (by first | exact Qt.refl _ | exact Qt.drewN _ _ | exact (Qt.drewN _ _).trans (Qt.drewN _ _) | exact ((Qt.drewN _ _).trans (Qt.drewN _ _)).trans (Qt.drewN _ _) | exact Qt.drew _ | exact (Qt.drewN _ _).trans (Qt.drew _))) (by simp)),HH.out.2.2.2.grown (grownBy_qt (by first | exact Qt.refl _ | exact Qt.drewN _ _ | exact (Qt.drewN _ _).trans (Qt.drewN _ _) | exact ((Qt.drewN _ _).trans (Qt.drewN _ _)).trans (Qt.drewN _ _) | exact Qt.drew _ | exact (Qt.drewN _ _).trans (Qt.drew _))) (by simp)⟩
     case measure => simp [intOf]; omega
    ·go_wp2_with fail
     go_quiet (fail)
     go_wp2_with fail
     refine wp_gen (fun Z => Qt wr Z) (by first | exact Qt.refl _ | exact Qt.drewN _ _ | exact (Qt.drewN _ _).trans (Qt.drewN _ _) | exact ((Qt.drewN _ _).trans (Qt.drewN _ _)).trans (Qt.drewN _ _) | exact Qt.drew _ | exact (Qt.drewN _ _).trans (Qt.drew _)) ?_
     rintro W5 q55
     have g5:=grownBy_qt q55
     have H5:=Lib.hid (And.intro (HH.out.1.keep g5) (And.intro (HH.out.2.2.1.trans (Kpt.grown g5 (by simp))) (HH.out.2.2.2.grown g5 (by simp))))
     clear q1 q2 q3 q4 q5 d0 d1 d2 s1 i1 i2 g5 q55
     refine wp_region_mix [0,1,2,3,4,5,6] [7,8] (fun w' => BoxC w' bw 4 c_a c_b c_f (.slice sa c_s.length sc)) (by kernel_rfl) (by kernel_rfl) (by kernel_rfl) (H5.out.2.2.grown (grownBy_drew0 _) (by simp)) ?_
     repeat (
      refine wpHeads_cons (v:=?_) rfl (Or.inl ⟨by rfl, ?_⟩) ?_
      rotate_left
      ·(intro W hW; obtain ⟨q1,q2,q3,q4,q5⟩:=hW; go_simp; try with_reducible rfl)
      simp only [Act.put,List.setIfInBounds_toArray])
     refine wpHeads_nil ?_
     refine wpTails_cons rfl ?_
     go_wp2_with fail
     obtain ⟨nn,hnn,hcl7⟩:=tcell_any (H5.out.1.keep (grownBy_drew0 _)) k c_f (by omega) (by omega) (by omega) (by omega)
     refine hcl7.mono ?_
     rintro e W7 ⟨rfl,q7⟩
     have g7 : W5.grownBy W7 none:=grownBy_trans (grownBy_drew0 _) (grownBy_qt q7)
     have H7:=Lib.hid (And.intro (H5.out.1.keep g7) (And.intro (H5.out.2.1.trans (Kpt.grown g7 (by simp))) (And.intro (H5.out.2.2.grown g7 (by simp)) hnn)))
     have hnN : nn < S.N:=by rw [hnn]; exact Syst.cell_lt hlt hf
     clear g7 q7 hcl7 hnn
     go_wp2_with fail
     refine tail_mk H7.out.2.2.1 ?_
     refine wpTails_one rfl ?_
     go_wp2_with fail
     refine (tflow_any H7.out.1 c_a nn ha1 hnN (by omega)).mono ?_
     rintro e W8 ⟨⟨v2,rfl⟩,M2,b2,hT2,hS2,hK2⟩
     have hB8 : BoxC W8 bw 4 c_a c_b c_f (.slice sa c_s.length sc):=by
      obtain ⟨r1,r2,r3,r4,r5⟩:=H7.out.2.2.1
      exact ⟨hK2.cell r1 HBW.out.1 HBW.out.2,hK2.cell r2 HBW.out.1 HBW.out.2,hK2.cell r3 HBW.out.1 HBW.out.2,hK2.cell r4 HBW.out.1 HBW.out.2,hK2.cell r5 HBW.out.1 HBW.out.2⟩
     rw [H7.out.2.2.2] at hS2
     have H8:=Lib.hid (And.intro hT2 (And.intro hS2 (And.intro (H7.out.2.1.trans hK2) hB8)))
     clear hT2 hS2 hK2 hB8
     go_wp2_with fail
     refine thenQ_mk ?_
     go_wp2_with fail
     go_roundw
     case rel => exact ⟨k + 1,by omega,by go_num,M2,b2,H8.out.1,HH.out.2.1.thenW H8.out.2.1 _ (fun p hp y hy => hp y (by omega)) (fun p hs hp => hp k (by omega) (hs _ _ HT.out)) (fun hF hG y hy hpy => by
      by_cases e : y = k
      ·subst e; exact hG
      ·exact hF y (by omega) hpy),H8.out.2.2.1,H8.out.2.2.2⟩
     case measure => simp [intOf]; omega
   ·obtain rfl : k = S.sites:=by omega
    have HH:=Lib.hid (And.intro hT (And.intro hS hK))
    clear hT hS hK hB
    go_wp2_with fail
    go_end0
    exact ⟨⟨_,rfl⟩,M',b',HH.out.1,HH.out.2.1.mono (fun p hp y _ => holds4.1 hp y) (fun hp => holds4.2 fun y hy => hp y (tg_lt HX.out.1.shp hy).2 hy),HH.out.2.2⟩
 ·have ha1 : c_a < S.N:=vN (by have h:=HX.out.2.1.a; simpa using h)
  rw [show ((5 : Nat) : Int) = 5 from rfl]
  go_enter Tryz.func56,Tryz.ntmps56
  go_wp2_with fail
  refine wp_gen (fun Z => TbM S cv tb ha hc vs M b Z∧Kpt tb (.slice ha S.N hc) vs W Z∧BoxC Z W.heap.size 5 c_a c_b c_f (.slice sa c_s.length sc)) ⟨HX.out.1.keep (grownBy_alloc _ _),Kpt.grown (grownBy_alloc _ _) (by simp),BoxC.new W 5 c_a c_b c_f _ _⟩ ?_
  rintro W1 h1
  have hbw0 : W.heap.size ≠ tb∧¬ Foot (.slice ha S.N hc) vs W.heap.size:=⟨by have:=World.block_lt_of_cell? W _ HX.out.1.s0; simp at this; omega,fun hf => by have:=(HX.out.1.foot _ hf).2; omega⟩
  obtain ⟨bw,hbw⟩ : ∃ bw,bw = W.heap.size:=⟨_,rfl⟩
  rw [← hbw] at h1 hbw0 ⊢
  have H1:=Lib.hid h1
  have HBW:=Lib.hid hbw0
  clear h1 hbw hbw0
  go_loopw [4] (fun x wr => ∃ k : Nat,k ≤ c_s.length∧x = .int .i64 k∧Hid (∃ M' b',TbM S cv tb ha hc vs M' b' wr∧TStp S.N S.sites (fun p => ∀ i,i < k→p c_a (nth c_s i)→p c_b (nth c_s i)) M M' b b'∧Kpt tb (.slice ha S.N hc) vs W wr∧BoxC wr bw 5 c_a c_b c_f (.slice sa c_s.length sc))) (fun x _ => c_s.length - (intOf x).toNat)
  case atStart => exact ⟨0,by omega,rfl,M,b,H1.out.1,TStp.refl H1.out.1.shp fun _ y hy => by omega,H1.out.2.1,H1.out.2.2⟩
  case round =>
   obtain ⟨k,hk,rfl,hh⟩:=hrel
   obtain ⟨M',b',hT,hS,hK,hB⟩:=hh.out
   clear hh
   by_cases hlt : k < c_s.length
   ·obtain ⟨a,c,e2,i1,d1,i2,h2⟩:=hT.rd (i:=c_a) ha1
    have hys : nth c_s k < S.sites:=HX.out.2.1.s _ (nth_mem _ _ hlt)
    obtain ⟨a9,c9,e9, -,i9,d9, -⟩:=(HX.out.2.2 wr (Kpt.below HX.out.1 hK)).out1 sInt
    simp only [Value.slice.injEq,List.length_map] at e9
    obtain ⟨rfl, -,rfl⟩:=e9
    simp only [List.length_map] at i9 d9
    have d8:=d9 k hlt
    rw [nth_map' _ _ _ hlt] at d8
    obtain ⟨y,hy⟩ : ∃ y,y = nth c_s k:=⟨_,rfl⟩
    rw [← hy] at d8 hys
    obtain ⟨d2,f2,ft⟩:=h2 y hys
    have d0:=hT.has
    obtain ⟨q1,q2,q3,q4,q5⟩:=hB
    have HH:=Lib.hid (And.intro hT (And.intro hS (And.intro hK (And.intro (show BoxC wr bw 5 c_a c_b c_f (.slice sa c_s.length sc) from ⟨q1,q2,q3,q4,q5⟩) (And.intro d8 hy)))))
    clear hT hS hK e2 h2 ft f2 d9 hy
    generalize htg : tg M' c_a y = t at *
    have HT:=Lib.hid htg
    clear htg
    cases t
    ·go_wp2_with fail
     go_quiet (fail)
     go_wp2_with fail
     go_roundw
     case rel => exact ⟨k + 1,by omega,by go_num,M',b',HH.out.1.keep (grownBy_qt (by first | exact Qt.refl _ | exact Qt.drewN _ _ | exact (Qt.drewN _ _).trans (Qt.drewN _ _) | exact ((Qt.drewN _ _).trans (Qt.drewN _ _)).trans (Qt.drewN _ _) | exact Qt.drew _ | exact (Qt.drewN _ _).trans (Qt.drew _))),HH.out.2.1.mono (fun p hp i hi => hp i (by omega)) (fun hp i hi hpy => by
      by_cases e : i = k
      ·subst e
       rw [← HH.out.2.2.2.2.2] at hpy
       have h3 : tg M' c_a y = true:=HH.out.2.1.le _ _ hpy
       rw [HT.out] at h3; cases h3
      ·exact hp i (by omega) hpy),HH.out.2.2.1.trans (Kpt.grown (grownBy_qt (by first | exact Qt.refl _ | exact Qt.drewN _ _ | exact (Qt.drewN _ _).trans (Qt.drewN _ _) | exact ((Qt.drewN _ _).trans (Qt.drewN _ _)).trans (Qt.drewN _ _) | exact Qt.drew _ | exact (Qt.drewN _ _).trans (Qt.drew _))) (by simp)),HH.out.2.2.2.1.grown (grownBy_qt (by first | exact Qt.refl _ | exact Qt.drewN _ _ | exact (Qt.drewN _ _).trans (Qt.drewN _ _) | exact ((Qt.drewN _ _).trans (Qt.drewN _ _)).trans (Qt.drewN _ _) | exact Qt.drew _ | exact (Qt.drewN _ _).trans (Qt.drew _))) (by simp)⟩
     case measure => simp [intOf]; omega
    ·go_wp2_with fail
     go_quiet (fail)
     go_wp2_with fail
     refine wp_gen (fun Z => Qt wr Z) (by first | exact Qt.refl _ | exact Qt.drewN _ _ | exact (Qt.drewN _ _).trans (Qt.drewN _ _) | exact ((Qt.drewN _ _).trans (Qt.drewN _ _)).trans (Qt.drewN _ _) | exact Qt.drew _ | exact (Qt.drewN _ _).trans (Qt.drew _)) ?_
     rintro W5 q55
     have g5:=grownBy_qt q55
     have H5:=Lib.hid (And.intro (HH.out.1.keep g5) (And.intro (HH.out.2.2.1.trans (Kpt.grown g5 (by simp))) (And.intro (HH.out.2.2.2.1.grown g5 (by simp)) (g5.cell HH.out.2.2.2.2.1 (by simp)))))
     clear q1 q2 q3 q4 q5 d0 d1 d2 i1 i2 g5 q55 d8
     refine wp_region_mix [0,1,2,3,4,5,6,7] [8] (fun w' => BoxC w' bw 5 c_a c_b c_f (.slice sa c_s.length sc)∧w'.cell? ⟨blk sa,ofs sa + k,none⟩ = some (.int .i64 (y : Int))) (by kernel_rfl) (by kernel_rfl) (by kernel_rfl) ⟨H5.out.2.2.1.grown (grownBy_drew0 _) (by simp),(grownBy_drew0 _).cell H5.out.2.2.2 (by simp)⟩ ?_
     repeat (
      refine wpHeads_cons (v:=?_) rfl (Or.inl ⟨by rfl, ?_⟩) ?_
      rotate_left
      ·(intro W hW; obtain ⟨⟨q1,q2,q3,q4,q5⟩,q6⟩:=hW; go_simp; try with_reducible rfl)
      simp only [Act.put,List.setIfInBounds_toArray])
     refine wpHeads_nil ?_
     refine wpTails_one rfl ?_
     go_wp2_with fail
     refine (tput_any (H5.out.1.keep (grownBy_drew0 _)) c_b y hbN hys).mono ?_
     rintro e W8 ⟨⟨v2,rfl⟩,M2,b2,hT2,hS2,hK2'⟩
     have hK2 : Kpt tb (.slice ha S.N hc) vs W5 W8:=(Kpt.grown (grownBy_drew0 _) (by simp)).trans hK2'
     have hB8 : BoxC W8 bw 5 c_a c_b c_f (.slice sa c_s.length sc):=by
      obtain ⟨r1,r2,r3,r4,r5⟩:=H5.out.2.2.1
      exact ⟨hK2.cell r1 HBW.out.1 HBW.out.2,hK2.cell r2 HBW.out.1 HBW.out.2,hK2.cell r3 HBW.out.1 HBW.out.2,hK2.cell r4 HBW.out.1 HBW.out.2,hK2.cell r5 HBW.out.1 HBW.out.2⟩
     have H8:=Lib.hid (And.intro hT2 (And.intro hS2 (And.intro (H5.out.2.1.trans hK2) hB8)))
     clear hT2 hS2 hK2 hK2' hB8
     go_wp2_with fail
     refine thenQ_mk ?_
     go_wp2_with fail
     go_roundw
     case rel => exact ⟨k + 1,by omega,by go_num,M2,b2,H8.out.1,HH.out.2.1.thenW H8.out.2.1 _ (fun p hp i hi => hp i (by omega)) (fun p hs hp => by have:=hp k (by omega); rw [← HH.out.2.2.2.2.2] at this; exact this (hs _ _ HT.out)) (fun hF hG i hi hpy => by
      by_cases e : i = k
      ·subst e; rw [← HH.out.2.2.2.2.2]; exact hG
      ·exact hF i (by omega) hpy),H8.out.2.2.1,H8.out.2.2.2⟩
     case measure => simp [intOf]; omega
   ·obtain rfl : k = c_s.length:=by omega
    have HH:=Lib.hid (And.intro hT (And.intro hS hK))
    obtain ⟨q1,q2,q3,q4,q5⟩:=hB
    clear hT hS hK
    go_wp2_with fail
    go_end0
    exact ⟨⟨_,rfl⟩,M',b',HH.out.1,HH.out.2.1.mono (fun p hp i hi hpi => holds5.1 hp _ hpi (nth_mem _ _ hi)) (fun hp => holds5.2 fun x hx hm => by
     obtain ⟨i,hi,rfl⟩:=mem_nth hm
     exact hp i hi hx),HH.out.2.2⟩
end Go.Proofs.YtgblfjccccdidaaGreat
end
section
namespace Go.Proofs.YtgblfjccccdidaaGreat
open Go.RowKit Go.Dfl Go.And
set_option maxHeartbeats 1600000 in
theorem tlist_any {S : Syst} {cv : Value} {tb : Nat} {ha : Option Addr} {hc : Nat} {vs : List Value} {M : List (List Bool)} {b : Bool} {W : World} (h : TbM S cv tb ha hc vs M b W) (i : Nat) (hi : i < S.N) (hs : S.sites ≤ 1000000) :
  Calls Tryz.prog 57 #[.pointer (some ⟨tb,0,none⟩),.int .i64 (i : Int)] W fun e W' => ∃ a n c,e = .returned (.slice a n c)∧OwnI W' W.heap.size 3 (.slice a n c) (((List.range S.sites).filter (tg M i)).map fun x : Nat => (x : Int))∧Below W.heap.size W W':=by
 have H:=Lib.hid h
 clear h
 go_enter Tryz.func57,Tryz.ntmps57
 go_wp2_with fail
 go_loopw [5,6] (fun o x wr => ∃ k : Nat,k ≤ S.sites∧x = .int .i64 k∧Hid (OwnI wr W.heap.size 3 o (((List.range k).filter (tg M i)).map fun x : Nat => (x : Int))∧Below W.heap.size W wr)) (fun _ x _ => S.sites - (intOf x).toNat)
 case atStart => exact ⟨0,by omega,rfl,Go.Dfl.Own.nil _ _ _ _,Below.refl _ _⟩
 case round =>
  obtain ⟨k,hk,rfl,hh⟩:=hrel
  have hT:=H.out.keep (grownBy_below hh.out.2)
  have s1:=hT.s1
  by_cases hlt : k < S.sites
  ·obtain ⟨a,c,e2,i1,d1,i2,h2⟩:=hT.rd hi
   obtain ⟨d2,f2,ft⟩:=h2 k hlt
   have d0:=hT.has
   clear hT e2 h2 ft f2
   have hsz:=hh.out.2.size
   have hll : (((List.range k).filter (tg M i)).map fun x : Nat => (x : Int)).length < 17592186044416:=by
    rw [List.length_map]; exact Nat.lt_of_le_of_lt (List.length_filter_le _ _) (by simp; omega)
   have HL:=Lib.hid hll
   clear hll
   generalize htg : tg M i k = t at *
   have HT:=Lib.hid htg
   clear htg
   cases t
   ·go_wp2_with fail
    go_roundw
    case rel => exact ⟨k + 1,by omega,by go_num,by
     rw [List.range_succ,List.filter_append]; simpa [HT.out] using hh.out.1,hh.out.2⟩
    case measure => simp [intOf]; omega
   ·go_wp2_with (at_builtin; refine wp_append1 (f:=Value.int .i64) sInt rfl _ rfl _ _ rfl W.heap.size _ (((List.range k).filter (tg M i)).map fun x : Nat => (x : Int)) rfl (hh.out.1.alloc _) (k : Int) ⟨wr.heap.size,0,none⟩ rfl (cell_alloc1 _ _ _) rfl HL.out (by omega) (le_alloc _ hsz) ?_; intro v' w3 hown hgr hb3)
    go_roundw
    case rel => exact ⟨k + 1,by omega,by go_num,by
     rw [List.range_succ,List.filter_append]; simpa [HT.out] using hown,(hh.out.2.alloc hh.out.2.size _).trans hb3⟩
    case measure => simp [intOf]; omega
  ·obtain rfl : k = S.sites:=by omega
   clear hT
   have HD:=Lib.hid hh.out
   clear hh
   obtain ⟨a9,c9,rfl⟩:=HD.out.1.shape rfl
   go_wp2_with fail
   go_ret
   exact ⟨_,_,_,rfl,HD.out.1,HD.out.2⟩
structure TbK (S : Syst) (cv : Value) (tb k : Nat) (ha : Option Addr) (hc : Nat) (vs : List Value) (W : World) : Prop where
 s0 : W.cell? ⟨tb,0,none⟩ = some (.int .i64 (S.vars : Int))
 s1 : W.cell? ⟨tb,1,none⟩ = some (.int .i64 (S.sites : Int))
 s2 : W.cell? ⟨tb,2,none⟩ = some (.int .i64 (S.fields : Int))
 s3 : W.cell? ⟨tb,3,none⟩ = some cv
 has : W.cell? ⟨tb,4,none⟩ = some (.slice ha k hc)
 more : W.cell? ⟨tb,5,none⟩ = some (.bool true)
 frz : ∀ j,W.frozen? ⟨tb,j,none⟩ = false
 own : OwnN IBool W (tb + 1) 81 (.slice ha k hc) vs (List.replicate k (List.replicate S.sites false))
theorem nth_replicate {α : Type} [Inhabited α] (n i : Nat) (x : α) (h : i < n) : nth (List.replicate n x) i = x:=by simp [nth,h]
theorem TbK.done {S : Syst} {cv : Value} {tb : Nat} {ha : Option Addr} {hc : Nat} {vs : List Value} {W : World} (h : TbK S cv tb S.N ha hc vs W) : TbM S cv tb ha hc vs (List.replicate S.N (List.replicate S.sites false)) true W :=
 ⟨h.s0,h.s1,h.s2,h.s3,h.has,h.more,h.frz,h.own,by simp,fun i hi => by rw [nth_replicate _ _ _ hi]; simp⟩
theorem TbK.new (S : Syst) (cv : Value) (W : World) (t : TypeId) : TbK S cv W.heap.size 0 none 0 [] (W.alloc (.cells #[.int .i64 (S.vars : Int),.int .i64 (S.sites : Int),.int .i64 (S.fields : Int),cv,.slice none 0 0,.bool true] t)):=by
 have hn:=cells_new (W:=W) (cs:=[.int .i64 (S.vars : Int),.int .i64 (S.sites : Int),.int .i64 (S.fields : Int),cv,.slice none 0 0,.bool true]) (t:=t) rfl
 refine ⟨hn 0 _ rfl,hn 1 _ rfl,hn 2 _ rfl,hn 3 _ rfl,hn 4 _ rfl,hn 5 _ rfl,fun j => ?_,OwnN.empty _ _ _⟩
 have hb:=heap_alloc_new W (.cells #[.int .i64 (S.vars : Int),.int .i64 (S.sites : Int),.int .i64 (S.fields : Int),cv,.slice none 0 0,.bool true] t)
 simp only [World.frozen?,hb]
 first | rfl | simp
theorem TbK.push {S : Syst} {cv : Value} {tb k : Nat} {ha : Option Addr} {hc : Nat} {vs : List Value} {W W1 W2 : World} (h : TbK S cv tb k ha hc vs W) {u : Value} (g1 : W.grownBy W1 none) (hu : IBool W1 W.heap.size u (List.replicate S.sites false))
  {a2 : Option Addr} {c2 : Nat} (ho : Go.Dfl.Own (fun x : Value => x) W2 (tb + 1) 81 (.slice a2 (k + 1) c2) (vs ++ [u])) (g2 : W1.grownBy W2 (Value.slice ha k hc).ownBlock) (hl : (Value.slice a2 (k + 1) c2).ownBlock = (Value.slice ha k hc).ownBlock ∨ (Value.slice a2 (k + 1) c2).ownBlock = some W1.heap.size) :
  W2.frozen? ⟨tb,4,none⟩ = false∧W2.cell? ⟨tb,4,none⟩ = some (.slice ha k hc)∧TbK S cv tb (k + 1) a2 c2 (vs ++ [u]) (W2.setCell ⟨tb,4,none⟩ (.slice a2 (k + 1) c2)):=by
 have hlt : tb < W.heap.size:=World.block_lt_of_cell? W _ h.s0
 have hne : some tb ≠ (Value.slice ha k hc).ownBlock:=fun e => by have:=(h.own.out.lt _ e.symm).1; omega
 have hc2 : ∀ {j : Nat} {x : Value},W.cell? ⟨tb,j,none⟩ = some x→W2.cell? ⟨tb,j,none⟩ = some x:=fun hx => g2.cell (g1.cell hx (by simp)) hne
 have hf : ∀ j,W2.frozen? ⟨tb,j,none⟩ = false:=fun j => by
  rw [World.frozen?_of_block (a:=⟨tb,j,none⟩) ((g2.block tb (Nat.lt_of_lt_of_le hlt g1.size) hne).trans (g1.block tb hlt (by simp)))]; exact h.frz j
 have oth : ∀ {j : Nat} {x : Value},j ≠ 4→W.cell? ⟨tb,j,none⟩ = some x→(W2.setCell ⟨tb,4,none⟩ (.slice a2 (k + 1) c2)).cell? ⟨tb,j,none⟩ = some x:=fun hj hx => by
  rw [World.cell?_setCell_other _ _ _ _ (by intro e; simp at e; try omega)]; exact hc2 hx
 refine ⟨hf 4,hc2 h.has,oth (by omega) h.s0,oth (by omega) h.s1,oth (by omega) h.s2,oth (by omega) h.s3,World.cell?_setCell_same W2 _ _ (hc2 h.has),oth (by omega) h.more,fun j => by rw [World.frozen?_setCell]; exact hf j, ?_⟩
 have hp:=OwnN.push kBool (h.own.grown kBool g1 (by simp)) ho g2 hl (u:=u) (l:=List.replicate S.sites false) (hu.mono (by omega)) (fun m hm hf => by
  have h1:=(hu.lt m hm).1
  have h2:=(h.own.foot kBool m hf).2
  omega)
 rw [← List.replicate_succ'] at hp
 exact hp.grown kBool (grownBy_setCell _ _ _) fun m e hf => by
  simp at e
  have:=(hp.foot kBool m hf).1
  omega
theorem sol_of_table {S : Syst} {M : List (List Bool)} (hS : S.Ok) (h1 : Sub (tp M) (Pts S)) (h2 : Go.And.Shut S (tp M)) (i : Nat) : IsSol S i (((List.range S.sites).filter (tg M i)).map fun x : Nat => (x : Int)):=by
 refine ⟨_,rfl,List.pairwise_lt_range.filter _,fun y => ?_⟩
 rw [List.mem_filter,List.mem_range]
 constructor
 ·exact fun h => h1 i y h.2
 ·exact fun h => ⟨(pts_bound hS h).2,h _ h2⟩
structure TbL (S : Syst) (cv : Value) (tb : Nat) (ha : Option Addr) (hc : Nat) (vs : List Value) (M : List (List Bool)) (b : Bool) (W0 W : World) : Prop where
 mem : TbM S cv tb ha hc vs M b W
 sub : Sub (tp M) (Pts S)
 shut : b = false→Go.And.Shut S (tp M)
 bel : Below tb W0 W
def gas (S : Syst) (M : List (List Bool)) (b : Bool) : Nat:=2 * (S.N * S.sites - cntB M) + (if b then 1 else 0)
theorem push2 {w w1 w2 : World} {base : Nat} {e : TypeId} {v v' u v2 : Value} {vs vs2 : List Value} {ll ll2 : List (List Int)} {l : List Int} (h : OwnN IInt w base e v vs ll) (h2 : OwnN IInt w base e v2 vs2 ll2) (dis : ∀ k,Foot v vs k→¬ Foot v2 vs2 k) (g1 : w.grownBy w1 none) (hu : IInt w1 w.heap.size u l) (hbase : base ≤ w.heap.size)
  (ho : Go.Dfl.Own (fun x : Value => x) w2 base e v' (vs ++ [u])) (g2 : w1.grownBy w2 v.ownBlock) (hl : v'.ownBlock = v.ownBlock ∨ v'.ownBlock = some w1.heap.size) :
  OwnN IInt w2 base e v' (vs ++ [u]) (ll ++ [l])∧OwnN IInt w2 base e v2 vs2 ll2∧∀ k,Foot v' (vs ++ [u]) k→¬ Foot v2 vs2 k:=by
 have hfr : ∀ k,u.ownBlock = some k→¬ Foot v vs k∧¬ Foot v2 vs2 k:=fun k hk =>
  ⟨fun hf => by have:=(hu.lt k hk).1; have:=(h.foot kInt k hf).2; omega,fun hf => by have:=(hu.lt k hk).1; have:=(h2.foot kInt k hf).2; omega⟩
 refine ⟨OwnN.push kInt (h.grown kInt g1 (by simp)) ho g2 hl (hu.mono hbase) fun k hk => (hfr k hk).1,(h2.grown kInt g1 (by simp)).grown kInt g2 fun k hk => dis k (.inl hk),fun k hk => ?_⟩
 rcases hk with hk | ⟨i,hi,hk⟩
 ·rcases hl with e1 | e1
  ·rw [e1] at hk; exact dis k (.inl hk)
  ·rw [e1] at hk
   simp at hk
   intro hf
   have:=(h2.foot kInt k hf).2
   have:=g1.size
   omega
 ·rw [nth_append] at hk
  by_cases e1 : i < vs.length
  ·rw [if_pos e1] at hk; exact dis k (.inr ⟨i,e1,hk⟩)
  ·simp at hi
   obtain rfl : i = vs.length:=by omega
   rw [if_neg e1,Nat.sub_self] at hk
   exact (hfr k hk).2
def rowsOf (S : Syst) (M : List (List Bool)) (at0 n : Nat) : List (List Int):=(List.range n).map fun i => ((List.range S.sites).filter (tg M (at0 + i))).map fun x : Nat => (x : Int)
theorem rowsOf_len (S : Syst) (M : List (List Bool)) (at0 n : Nat) : (rowsOf S M at0 n).length = n:=by simp [rowsOf]
theorem rowsOf_succ (S : Syst) (M : List (List Bool)) (at0 n : Nat) : rowsOf S M at0 (n + 1) = rowsOf S M at0 n ++ [((List.range S.sites).filter (tg M (at0 + n))).map fun x : Nat => (x : Int)]:=by simp [rowsOf,List.range_succ]
theorem rowsOf_nth (S : Syst) (M : List (List Bool)) (at0 n i : Nat) (h : i < n) : nth (rowsOf S M at0 n) i = ((List.range S.sites).filter (tg M (at0 + i))).map fun x : Nat => (x : Int):=by simp [rowsOf,nth,h]
structure Gat (S : Syst) (M : List (List Bool)) (pb n1 n2 : Nat) (a1 : Option Addr) (c1 : Nat) (vs1 : List Value) (a2 : Option Addr) (c2 : Nat) (vs2 : List Value) (W : World) : Prop where
 p0 : W.cell? ⟨pb,0,none⟩ = some (.slice a1 n1 c1)
 p1 : W.cell? ⟨pb,1,none⟩ = some (.slice a2 n2 c2)
 frz : ∀ j,W.frozen? ⟨pb,j,none⟩ = false
 o1 : OwnN IInt W (pb + 1) 32 (.slice a1 n1 c1) vs1 (rowsOf S M 0 n1)
 o2 : OwnN IInt W (pb + 1) 32 (.slice a2 n2 c2) vs2 (rowsOf S M S.vars n2)
 dis : ∀ k,Foot (.slice a1 n1 c1) vs1 k→¬ Foot (.slice a2 n2 c2) vs2 k
theorem Gat.new (S : Syst) (M : List (List Bool)) (W : World) (t : TypeId) : Gat S M W.heap.size 0 0 none 0 [] none 0 [] (W.alloc (.cells #[.slice none 0 0,.slice none 0 0] t)):=by
 have hn:=cells_new (W:=W) (cs:=[.slice none 0 0,.slice none 0 0]) (t:=t) rfl
 refine ⟨hn 0 _ rfl,hn 1 _ rfl,fun j => ?_,OwnN.empty _ _ _,OwnN.empty _ _ _,fun k hk => ?_⟩
 ·have hb:=heap_alloc_new W (.cells #[.slice none 0 0,.slice none 0 0] t)
  simp only [World.frozen?,hb]
  first | rfl | simp
 ·rcases hk with hk | ⟨i,hi, -⟩
  ·simp [Value.ownBlock] at hk
  ·simp at hi
theorem Gat.cells {S : Syst} {M : List (List Bool)} {pb n1 n2 : Nat} {a1 a2 : Option Addr} {c1 c2 : Nat} {vs1 vs2 : List Value} {W W1 W2 : World} (h : Gat S M pb n1 n2 a1 c1 vs1 a2 c2 vs2 W) (g1 : W.grownBy W1 none) {v : Value} (hv : v = .slice a1 n1 c1 ∨ v = .slice a2 n2 c2) (g2 : W1.grownBy W2 v.ownBlock) :
  W2.cell? ⟨pb,0,none⟩ = some (.slice a1 n1 c1)∧W2.cell? ⟨pb,1,none⟩ = some (.slice a2 n2 c2)∧∀ j,W2.frozen? ⟨pb,j,none⟩ = false:=by
 have hlt : pb < W.heap.size:=World.block_lt_of_cell? W _ h.p0
 have hne : some pb ≠ v.ownBlock:=fun e => by
  rcases hv with rfl | rfl
  ·have:=(h.o1.out.lt _ e.symm).1; omega
  ·have:=(h.o2.out.lt _ e.symm).1; omega
 refine ⟨g2.cell (g1.cell h.p0 (by simp)) hne,g2.cell (g1.cell h.p1 (by simp)) hne,fun j => ?_⟩
 rw [World.frozen?_of_block (a:=⟨pb,j,none⟩) ((g2.block pb (Nat.lt_of_lt_of_le hlt g1.size) hne).trans (g1.block pb hlt (by simp)))]; exact h.frz j
theorem Gat.push1 {S : Syst} {M : List (List Bool)} {pb n1 n2 : Nat} {a1 a2 : Option Addr} {c1 c2 : Nat} {vs1 vs2 : List Value} {W W1 W2 : World} (h : Gat S M pb n1 n2 a1 c1 vs1 a2 c2 vs2 W) {u : Value} (g1 : W.grownBy W1 none) (hu : IInt W1 W.heap.size u (((List.range S.sites).filter (tg M n1)).map fun x : Nat => (x : Int)))
  {a3 : Option Addr} {c3 : Nat} (ho : Go.Dfl.Own (fun x : Value => x) W2 (pb + 1) 32 (.slice a3 (n1 + 1) c3) (vs1 ++ [u])) (g2 : W1.grownBy W2 (Value.slice a1 n1 c1).ownBlock) (hl : (Value.slice a3 (n1 + 1) c3).ownBlock = (Value.slice a1 n1 c1).ownBlock ∨ (Value.slice a3 (n1 + 1) c3).ownBlock = some W1.heap.size) :
  Gat S M pb (n1 + 1) n2 a3 c3 (vs1 ++ [u]) a2 c2 vs2 (W2.setCell ⟨pb,0,none⟩ (.slice a3 (n1 + 1) c3)):=by
 have hlt : pb < W.heap.size:=World.block_lt_of_cell? W _ h.p0
 obtain ⟨q0,q1,qf⟩:=h.cells g1 (.inl rfl) g2
 obtain ⟨r1,r2,r3⟩:=push2 h.o1 h.o2 h.dis g1 hu (by omega) ho g2 hl
 have e1 : rowsOf S M 0 n1 ++ [((List.range S.sites).filter (tg M n1)).map fun x : Nat => (x : Int)] = rowsOf S M 0 (n1 + 1):=by rw [rowsOf_succ,Nat.zero_add]
 rw [e1] at r1
 have gs:=grownBy_setCell W2 ⟨pb,0,none⟩ (.slice a3 (n1 + 1) c3)
 exact ⟨World.cell?_setCell_same W2 _ _ q0,by rw [World.cell?_setCell_other _ _ _ _ (by intro e; simp at e)]; exact q1,fun j => by rw [World.frozen?_setCell]; exact qf j,
  r1.grown kInt gs fun k e hf => by simp at e; have:=(r1.foot kInt k hf).1; omega,r2.grown kInt gs fun k e hf => by simp at e; have:=(r2.foot kInt k hf).1; omega,r3⟩
theorem Gat.push2 {S : Syst} {M : List (List Bool)} {pb n1 n2 : Nat} {a1 a2 : Option Addr} {c1 c2 : Nat} {vs1 vs2 : List Value} {W W1 W2 : World} (h : Gat S M pb n1 n2 a1 c1 vs1 a2 c2 vs2 W) {u : Value} (g1 : W.grownBy W1 none) (hu : IInt W1 W.heap.size u (((List.range S.sites).filter (tg M (S.vars + n2))).map fun x : Nat => (x : Int)))
  {a3 : Option Addr} {c3 : Nat} (ho : Go.Dfl.Own (fun x : Value => x) W2 (pb + 1) 32 (.slice a3 (n2 + 1) c3) (vs2 ++ [u])) (g2 : W1.grownBy W2 (Value.slice a2 n2 c2).ownBlock) (hl : (Value.slice a3 (n2 + 1) c3).ownBlock = (Value.slice a2 n2 c2).ownBlock ∨ (Value.slice a3 (n2 + 1) c3).ownBlock = some W1.heap.size) :
  Gat S M pb n1 (n2 + 1) a1 c1 vs1 a3 c3 (vs2 ++ [u]) (W2.setCell ⟨pb,1,none⟩ (.slice a3 (n2 + 1) c3)):=by
 have hlt : pb < W.heap.size:=World.block_lt_of_cell? W _ h.p0
 obtain ⟨q0,q1,qf⟩:=h.cells g1 (.inr rfl) g2
 obtain ⟨r1,r2,r3⟩:=_root_.Go.Proofs.YtgblfjccccdidaaGreat.push2 h.o2 h.o1 (fun k h1 h2 => h.dis k h2 h1) g1 hu (by omega) ho g2 hl
 rw [← rowsOf_succ] at r1
 have gs:=grownBy_setCell W2 ⟨pb,1,none⟩ (.slice a3 (n2 + 1) c3)
 exact ⟨by rw [World.cell?_setCell_other _ _ _ _ (by intro e; simp at e)]; exact q0,World.cell?_setCell_same W2 _ _ q1,fun j => by rw [World.frozen?_setCell]; exact qf j,
  r2.grown kInt gs fun k e hf => by simp at e; have:=(r2.foot kInt k hf).1; omega,r1.grown kInt gs fun k e hf => by simp at e; have:=(r1.foot kInt k hf).1; omega,fun k h1 h2 => r3 k h2 h1⟩
end Go.Proofs.YtgblfjccccdidaaGreat
end
section
namespace Go.Proofs.YtgblfjccccdidaaGreat
open Go.RowKit Go.Dfl Go.And
theorem tg_empty (N n i x : Nat) : tg (List.replicate N (List.replicate n false)) i x = false:=by
 cases h : tg (List.replicate N (List.replicate n false)) i x
 ·rfl
 ·have hl:=tg_lt (N:=N) (n:=n) ⟨by simp,fun i hi => by rw [nth_replicate _ _ _ hi]; simp⟩ h
  unfold tg at h
  rw [nth_replicate _ _ _ hl.1,nth_replicate _ _ _ hl.2] at h
  cases h
theorem gas_lt {S : Syst} {F : (Nat→Nat→Prop)→Prop} {M M' : List (List Bool)} {b' : Bool} (hm : Shp S.N S.sites M) (h : TStp S.N S.sites F M M' false b') : gas S M' b' < gas S M true:=by
 have h1:=h.cnt
 have h2:=h.sh.cnt
 have h3:=hm.cnt
 unfold gas
 cases b'
 ·simp; omega
 ·rcases h.up rfl with h4 | h4
  ·cases h4
  ·simp; omega
theorem _root_.Go.And.VldC.slen {s : Sy} {c : R} (h : VldC s c) (hs : s.sites ≤ 12) : c.C.s.length ≤ 12:=by
 have hp : (c.s.map Int.toNat).Pairwise (· < ·):=by
  rw [List.pairwise_map]
  exact h.asc.imp_of_mem fun {a b} ha hb hab => by have h1:=h.s a ha; have h2:=h.s b hb; omega
 exact sorted_len' (n:=12) hp fun x hx => by obtain ⟨y,hy,rfl⟩:=List.mem_map.1 hx; have:=h.s y hy; omega
theorem own_lowI {W : World} {base base' : Nat} {eo : TypeId} {v : Value} {vs : List Value} {ls : List (List Int)} (h : OwnN IInt W base eo v vs ls) (hb : base' ≤ base) : OwnN IInt W base' eo v vs ls :=
 ⟨h.out.mono hb,h.len,fun i hi => (h.inn i hi).mono hb,h.sep,h.apart⟩
def SolveO (s : Sy) (W : World) (e : Ending) (W' : World) : Prop :=
 (chkCode s ≠ 0∧e = .returned (.tuple #[.agg #[.slice none 0 0,.slice none 0 0],.int .i64 (chkCode s)])∧Below W.heap.size W W') ∨
 (chkCode s = 0∧∃ ua uc va vc lu lv us vs,e = .returned (.tuple #[.agg #[.slice ua s.S.vars uc,.slice va (s.S.sites * s.S.fields) vc],.int .i64 0])∧OwnN IInt W' W.heap.size 32 (.slice ua s.S.vars uc) us lu∧OwnN IInt W' W.heap.size 32 (.slice va (s.S.sites * s.S.fields) vc) vs lv∧Sol s.S lu lv∧Below W.heap.size W W')
set_option maxHeartbeats 12800000 in
set_option maxRecDepth 100000 in
theorem rSolveO_any (s : Sy) (cv : Value) (W : World) (hc : ConsIn W cv s.cons) (hs : Sm s) : Calls Tryz.prog 36 #[SysV s cv] W (SolveO s W):=by
 have HC:=Lib.hid (And.intro hc hs)
 obtain ⟨ca,cc,rfl,hlen,hci,hcc⟩:=hc.out
 have hcn:=hs.cons
 have HCC:=Lib.hid hcc
 have g0:=grownBy_trans (grownBy_alloc W (.cells #[.int .i64 s.vars,.int .i64 s.sites,.int .i64 s.fields,.slice ca s.cons.length cc] 24)) (grownBy_alloc _ (.cells #[.slice none 0 0,.slice none 0 0] 34))
 have b0 : Below W.heap.size W _:=((Below.refl W.heap.size W).alloc (Nat.le_refl _) (.cells #[.int .i64 s.vars,.int .i64 s.sites,.int .i64 s.fields,.slice ca s.cons.length cc] 24)).alloc (by simp) (.cells #[.slice none 0 0,.slice none 0 0] 34)
 have HG0:=Lib.hid (And.intro g0 b0)
 have hbs:=(BoxS.new W s (.slice ca s.cons.length cc) 24).grown (grownBy_alloc _ (.cells #[.slice none 0 0,.slice none 0 0] 34)) (by simp)
 have HBS:=Lib.hid hbs
 clear g0 b0 hbs hc hs hcc
 unfold SysV
 go_enter Tryz.func36,Tryz.ntmps36
 go_wp2_with fail
 refine (rCheck_any s (.slice ca s.cons.length cc) _ (HC.out.1.below (HG0.out.2)) HC.out.2).mono ?_
 rintro e W1 ⟨rfl,q1⟩
 have be1 : Below W.heap.size W W1:=HG0.out.2.grown (grownBy_below q1) (by simp; omega) (by simp)
 obtain ⟨d0,d1,d2,d3⟩:=HBS.out.grown (grownBy_below q1) (by simp)
 have hp0 : W1.cell? ⟨W.heap.size + 1,0,none⟩ = some (.slice none 0 0)∧W1.cell? ⟨W.heap.size + 1,1,none⟩ = some (.slice none 0 0)∧W1.frozen? ⟨W.heap.size + 1,0,none⟩ = false∧W1.frozen? ⟨W.heap.size + 1,1,none⟩ = false:=by
  have hb : W1.heap[W.heap.size + 1]? = some (.cells #[.slice none 0 0,.slice none 0 0] 34):=by
   rw [(grownBy_below q1).block (W.heap.size + 1) (by simp) (by simp)]
   have:=heap_alloc_new (W.alloc (.cells #[.int .i64 s.vars,.int .i64 s.sites,.int .i64 s.fields,.slice ca s.cons.length cc] 24)) (.cells #[.slice none 0 0,.slice none 0 0] 34)
   simpa using this
  refine ⟨by simp [World.cell?,hb],by simp [World.cell?,hb],by simp [World.frozen?,hb],by simp [World.frozen?,hb]⟩
 have H1:=Lib.hid be1
 clear be1 q1
 obtain ⟨p0,p1,f0,f1⟩:=hp0
 have bsz : W.heap.size + 1 < W1.heap.size:=World.block_lt_of_cell? W1 ⟨W.heap.size + 1,0,none⟩ p0
 by_cases h0 : chkCode s = 0
 ·have hv:=chkCode_ok.1 h0
  rw [h0]
  have HV:=Lib.hid (And.intro h0 hv)
  clear h0
  obtain ⟨S,hS⟩ : ∃ S,S = s.S:=⟨_,rfl⟩
  have hB:=HC.out.2.bnd
  have hbN : S.N ≤ 100:=by rw [hS]; exact hB.N
  have bv : S.vars ≤ 40:=by rw [hS]; exact hB.vars
  have bsi : S.sites ≤ 12:=by rw [hS]; exact hB.sites
  have bfi : S.fields ≤ 5:=by rw [hS]; exact hB.fields
  have e1 : s.vars = (S.vars : Int):=by rw [hS]; exact (Int.toNat_of_nonneg HV.out.2.vars).symm
  have e2 : s.sites = (S.sites : Int):=by rw [hS]; exact (Int.toNat_of_nonneg HV.out.2.sites).symm
  have e3 : s.fields = (S.fields : Int):=by rw [hS]; exact (Int.toNat_of_nonneg HV.out.2.fields).symm
  have hOk : S.Ok:=by rw [hS]; exact HV.out.2.ok
  have hcons : S.cons = s.cons.map R.C:=by rw [hS]; rfl
  have HS:=Lib.hid (And.intro hS (And.intro hOk hcons))
  rw [e1] at d0
  rw [e2] at d1
  rw [e3] at d2
  have hN0 : (S.sites : Int) * (S.fields : Int) = ((S.sites * S.fields : Nat) : Int):=by simp
  have hNd : S.N = S.vars + S.sites * S.fields:=rfl
  have hm0 : 0 ≤ (S.sites : Int) * (S.fields : Int):=by rw [hN0]; omega
  have hm1 : (S.sites : Int) * (S.fields : Int) ≤ 100:=by rw [hN0]; omega
  have hNN : Hid ((S.vars : Int) + (S.sites : Int) * (S.fields : Int) = (S.N : Int)):=Lib.hid (by rw [hN0,hNd]; simp)
  have HE:=Lib.hid (And.intro e1 (And.intro e2 e3))
  rw [e1,e2,e3]
  obtain ⟨bs,hbs⟩ : ∃ bs,bs = W.heap.size:=⟨_,rfl⟩
  obtain ⟨br,hbr⟩ : ∃ br,br = W.heap.size + 1:=⟨_,rfl⟩
  rw [← hbr] at p0 p1 f0 f1 bsz ⊢
  rw [← hbs] at d0 d1 d2 d3 ⊢
  have HBB:=Lib.hid (And.intro hbs hbr)
  clear hbs hbr e1 e2 e3 hS hOk hcons hB hv HBS HG0 hNd hN0
  have hgt:=grownBy_alloc W1 (.cells #[.int .i64 (S.vars : Int),.int .i64 (S.sites : Int),.int .i64 (S.fields : Int),.slice ca s.cons.length cc,.slice none 0 0,.bool true] 92)
  have x0:=hgt.cell d0 (by simp)
  have x1:=hgt.cell d1 (by simp)
  have x2:=hgt.cell d2 (by simp)
  clear hgt
  go_wp2_with fail
  refine wp_gen (fun Z => TbK S (.slice ca s.cons.length cc) W1.heap.size 0 none 0 [] Z∧Below W1.heap.size W1 Z) ⟨TbK.new S _ W1 _,(Below.refl _ _).alloc (Nat.le_refl _) _⟩ ?_
  rintro W2 h2
  have hbt : bs < W1.heap.size∧br < W1.heap.size:=⟨World.block_lt_of_cell? W1 _ d0,bsz⟩
  obtain ⟨tb,htb⟩ : ∃ tb,tb = W1.heap.size:=⟨_,rfl⟩
  rw [← htb] at h2 hbt
  have H2:=Lib.hid h2
  have HTW:=Lib.hid htb
  have HR:=Lib.hid (And.intro p0 (And.intro p1 (And.intro f0 f1)))
  have HD:=Lib.hid (And.intro d0 (And.intro d1 (And.intro d2 d3)))
  rw [← htb]
  rw [hNN.out]
  clear hm0 hm1 hNN
  clear x0 x1 x2 h2 htb p0 p1 f0 f1 d0 d1 d2 d3 bsz
  obtain ⟨hbs,hbr⟩:=hbt
  go_loopw [7] (fun x wr => ∃ (k : Nat) (ha : Option Addr) (hc : Nat) (vs : List Value),k ≤ S.N∧x = .int .i64 k∧Hid (TbK S (.slice ca s.cons.length cc) tb k ha hc vs wr∧Below tb W1 wr)) (fun x _ => S.N - (intOf x).toNat)
  case atStart => exact ⟨0,none,0, [],by omega,rfl,H2.out.1,H2.out.2⟩
  case round =>
   obtain ⟨k,ha,hc,vs,hk,rfl,hh⟩:=hrel
   by_cases hlt : k < S.N
   ·have hs1 : wr.cell? ⟨bs,1,none⟩ = some (.int .i64 (S.sites : Int)):=by rw [hh.out.2.cell (p:=⟨bs,1,none⟩) hbs]; exact HD.out.2.1
    have hhas:=hh.out.1.has
    have HQ:=Lib.hid (And.intro hhas hs1)
    clear hs1 hhas
    go_wp2_with fail
    refine wp_region_mix [0,1,2,3,4,5,6] [7,8,9,10,11,12] (fun w' => w'.cell? ⟨tb,4,none⟩ = some (.slice ha k hc)∧w'.cell? ⟨bs,1,none⟩ = some (.int .i64 (S.sites : Int))) (by kernel_rfl) (by kernel_rfl) (by kernel_rfl) ⟨(grownBy_drew0 _).cell HQ.out.1 (by simp),(grownBy_drew0 _).cell HQ.out.2 (by simp)⟩ ?_
    repeat (
     refine wpHeads_cons (v:=?_) rfl (Or.inl ⟨by rfl, ?_⟩) ?_
     rotate_left
     ·(intro W hW; obtain ⟨q1,q2⟩:=hW; go_simp; try with_reducible rfl)
     simp only [Act.put,List.setIfInBounds_toArray])
    refine wpHeads_nil ?_
    refine wpTails_cons rfl ?_
    refine wp_make (f:=Value.bool) false sBool rfl _ rfl _ _ rfl .i64 .i64 _ _ S.sites rfl rfl rfl rfl (by omega) (by unfold maxLen; omega) ?_
    intro ra rc W7 o7 q7
    have g7 : wr.grownBy W7 none:=grownBy_trans (grownBy_drew0 _) (grownBy_below q7)
    have g8 : wr.grownBy (W7.alloc (.cells #[.slice ra S.sites rc] 81)) none:=grownBy_trans g7 (grownBy_alloc _ _)
    have H7:=Lib.hid (And.intro o7 (And.intro g7 g8))
    refine tail_mk ⟨g7.cell HQ.out.1 (by simp),g7.cell HQ.out.2 (by simp)⟩ ?_
    clear o7 q7 g7 g8
    refine wpTails_cons rfl ?_
    go_wp2_with fail
    refine tail_mk ⟨H7.out.2.2.cell HQ.out.1 (by simp),H7.out.2.2.cell HQ.out.2 (by simp)⟩ ?_
    refine wpTails_cons rfl ?_
    have hvl : vs.length = k:=by have:=hh.out.1.own.len; simpa using this
    have htw : tb < wr.heap.size:=World.block_lt_of_cell? wr _ hh.out.1.s0
    refine wp_appendS (f:=fun x : Value => x) sBool2 rfl rfl _ _ rfl (tb + 1) (.slice ha k hc) vs rfl (.slice (some ⟨W7.heap.size,0,none⟩) 1 1) [.slice ra S.sites rc] rfl (hh.out.1.own.out.grown H7.out.2.2 (by cases (Value.slice ha k hc).ownBlock <;> simp)) (src_one _ (cell_at1 rfl)) (by simp [Value.oneCell']) (by simp; omega) (by omega) (by have h1:=H7.out.2.2.size; omega) ?_
    intro v9 W9 o9 g9 l9
    obtain ⟨s9,c9,rfl⟩:=o9.shape (n:=k + 1) (by simp; omega)
    obtain ⟨hf9,hc9,hK9⟩:=hh.out.1.push H7.out.2.2 (Go.Dfl.Own.alloc H7.out.1 _) o9 g9 l9
    have hob : ∀ m,(Value.slice ha k hc).ownBlock = some m→tb + 1 ≤ m:=fun m hm => (hh.out.1.own.out.lt m hm).1
    have hs9 : W9.cell? ⟨bs,1,none⟩ = some (.int .i64 (S.sites : Int)):=g9.cell (H7.out.2.2.cell HQ.out.2 (by simp)) (fun e => by have:=hob bs e.symm; omega)
    have hsz : tb ≤ W1.heap.size:=by rw [HTW.out]; exact Nat.le_refl _
    have b1 : Below tb W1 (W7.alloc (.cells #[.slice ra S.sites rc] 81)):=hh.out.2.grown H7.out.2.2 (Nat.le_trans hsz hh.out.2.size) (by simp)
    have b2 : Below tb W1 W9:=b1.grown g9 (Nat.le_trans hsz b1.size) (fun m hm => by have:=hob m hm; omega)
    have b3:=b2.setCell (show tb ≤ (⟨tb,4,none⟩ : Addr).block from Nat.le_refl _) (.slice s9 (k + 1) c9)
    have H9:=Lib.hid (And.intro hK9 b3)
    have hSS:=And.intro hc9 hs9
    have HSS:=Lib.hid hSS
    clear hK9 b1 b2 b3 o9 g9 l9 hob hs9 hvl htw hsz hSS
    refine tail_mk HSS.out ?_
    refine wpTails_cons rfl ?_
    go_wp2_with fail
    refine tail_mk HSS.out ?_
    refine wpTails_cons rfl ?_
    go_wp2_with fail
    refine tail_mk HSS.out ?_
    refine wpTails_one rfl ?_
    go_wp2_with fail
    refine thenQ_mk ?_
    clear hc9 hf9
    go_wp2_with fail
    go_roundw
    case rel => exact ⟨k + 1,s9,c9,_,by omega,by go_num,H9.out.1,H9.out.2⟩
    case measure => simp [intOf]; omega
   ·obtain rfl : k = S.N:=by omega
    have HM:=Lib.hid (And.intro hh.out.1.done hh.out.2)
    clear hh hlt hk
    go_wp2_with fail
    go_loopg [8] (gas S (List.replicate S.N (List.replicate S.sites false)) true) (fun g x wr => ∃ M b,g = gas S M b∧Hid (TbL S (.slice ca s.cons.length cc) tb ha hc vs M b W1 wr))
    case atStart => exact ⟨_,_,rfl,HM.out.1,(fun i x hx => by rw [tp,tg_empty] at hx; cases hx),(fun h => by cases h),HM.out.2⟩
    case round =>
     obtain ⟨M,b,rfl,hh⟩:=hrel
     have hm:=hh.out.mem.more
     have hfz:=hh.out.mem.frz 5
     cases b
     ·have HL:=Lib.hid hh.out
      have hft : ∀ m,Foot (.slice ha S.N hc) vs m→m < wr.heap.size:=fun m hm => (HL.out.mem.foot m hm).2
      have htp : tb < wr.heap.size:=World.block_lt_of_cell? wr _ HL.out.mem.s0
      have HFT0:=Lib.hid hft
      clear hh hft
      go_wp2_with fail
      refine wp_gen (fun Z => TbM S (.slice ca s.cons.length cc) tb ha hc vs M false Z∧Gat S M wr.heap.size 0 0 none 0 [] none 0 [] Z∧Below tb W1 Z∧wr.heap.size < Z.heap.size) ⟨HL.out.mem.keep (grownBy_alloc _ _),Gat.new S M wr _,HL.out.bel.alloc (Nat.le_of_lt htp) _,by simp⟩ ?_
      rintro W6 h6
      obtain ⟨pb,hpb⟩ : ∃ pb,pb = wr.heap.size:=⟨_,rfl⟩
      have hft:=HFT0.out
      rw [← hpb] at h6 hft htp ⊢
      have H6:=Lib.hid h6
      have HFT:=Lib.hid hft
      have HTB:=Lib.hid htp
      have HPB:=Lib.hid h6.2.2.2
      clear h6 hft htp hpb HFT0 hm hfz
      go_loopw [10] (fun x w4 => ∃ (k n1 n2 : Nat) (a1 : Option Addr) (c1 : Nat) (vs1 : List Value) (a2 : Option Addr) (c2 : Nat) (vs2 : List Value),k ≤ S.N∧x = .int .i64 k∧Hid (n1 + n2 = k∧n1 ≤ S.vars∧(n2 = 0 ∨ n1 = S.vars))∧Hid (TbM S (.slice ca s.cons.length cc) tb ha hc vs M false w4∧Gat S M pb n1 n2 a1 c1 vs1 a2 c2 vs2 w4∧Below pb W6 w4)) (fun x _ => S.N - (intOf x).toNat)
      case atStart => exact ⟨0,0,0,none,0, [],none,0, [],by omega,rfl,⟨rfl,by omega,.inl rfl⟩,H6.out.1,H6.out.2.1,Below.refl _ _⟩
      case round =>
       obtain ⟨k,n1,n2,a1,c1,vs1,a2,c2,vs2,hk,rfl,hn,hh⟩:=hrel
       have HH:=Lib.hid hh.out
       clear hh
       have hB6 : Below tb W1 wr:=H6.out.2.2.1.trans (HH.out.2.2.mono (Nat.le_of_lt HTB.out))
       have d0 : wr.cell? ⟨bs,0,none⟩ = some (.int .i64 (S.vars : Int)):=by rw [hB6.cell (p:=⟨bs,0,none⟩) hbs]; exact HD.out.1
       have HB6:=Lib.hid hB6
       clear hB6
       by_cases hlt : k < S.N
       ·by_cases hv : k < S.vars
        ·obtain rfl : k = n1:=by have:=hn.out; omega
         obtain rfl : 0 = n2:=by have:=hn.out; omega
         go_wp2_with fail
         have hp:=HH.out.2.1.p0
         refine wp_region_mix [0,1,2,3] [4,5,6,7,8] (fun w' => w'.cell? ⟨pb,0,none⟩ = some (.slice a1 k c1)) (by kernel_rfl) (by kernel_rfl) (by kernel_rfl) ((grownBy_drew0 _).cell hp (by simp)) ?_
         repeat (
          refine wpHeads_cons (v:=?_) rfl (Or.inl ⟨by rfl, ?_⟩) ?_
          rotate_left
          ·(intro W q1; go_simp; try with_reducible rfl)
          simp only [Act.put,List.setIfInBounds_toArray])
         refine wpHeads_nil ?_
         refine wpTails_cons rfl ?_
         go_wp2_with fail
         refine (tlist_any (HH.out.1.keep (grownBy_drew0 _)) k hlt (by omega)).mono ?_
         rintro e W7 ⟨ra,rn,rc,rfl,o7,q7⟩
         have g7 : wr.grownBy W7 none:=grownBy_trans (grownBy_drew0 _) (grownBy_below q7)
         have g8 : wr.grownBy (W7.alloc (.cells #[.slice ra rn rc] 32)) none:=grownBy_trans g7 (grownBy_alloc _ _)
         have H7:=Lib.hid (And.intro o7 (And.intro g7 g8))
         have c7:=g7.cell hp (by simp)
         clear hp o7 q7 g7 g8
         go_wp2_with fail
         refine tail_mk c7 ?_
         refine wpTails_cons rfl ?_
         go_wp2_with fail
         refine tail_mk ((grownBy_alloc _ _).cell c7 (by simp)) ?_
         refine wpTails_cons rfl ?_
         refine wp_appendS (f:=fun x : Value => x) sInt2 rfl rfl _ _ rfl (pb + 1) (.slice a1 k c1) vs1 rfl (.slice (some ⟨W7.heap.size,0,none⟩) 1 1) [.slice ra rn rc] rfl (HH.out.2.1.o1.out.grown (H7.out.2.2) (by cases (Value.slice a1 k c1).ownBlock <;> simp)) (src_one _ (cell_at1 rfl)) (by simp [Value.oneCell']) (by have:=HH.out.2.1.o1.len; rw [rowsOf_len] at this; simp; omega) (by omega) (by have h1:=H7.out.2.2.size; have h2 : pb < wr.heap.size:=World.block_lt_of_cell? wr _ HH.out.2.1.p0; omega) ?_
         intro v9 W9 o9 g9 l9
         obtain ⟨s9,c9,rfl⟩:=o9.shape (n:=k + 1) (by have:=HH.out.2.1.o1.len; rw [rowsOf_len] at this; simp; omega)
         have hpu:=HH.out.2.1.push1 (H7.out.2.2) (by have h:=H7.out.1.alloc (.cells #[.slice ra rn rc] 32); skip; exact h.mono (Nat.le_refl _)) o9 g9 l9
         obtain ⟨e0,e1,ef⟩:=HH.out.2.1.cells H7.out.2.2 (v:=.slice a1 k c1) (.inl rfl) g9
         have ef0:=ef 0
         have hTM : TbM S (.slice ca s.cons.length cc) tb ha hc vs M false (W9.setCell ⟨pb,0,none⟩ (.slice s9 (k + 1) c9)):=by
          have hpbf : ∀ m,(Value.slice a1 k c1).ownBlock = some m→pb < m:=fun m hm => (HH.out.2.1.o1.out.lt m hm).1
          have hfo : ∀ m,Foot (.slice ha S.N hc) vs m→m < pb:=HFT.out
          have htbp:=HTB.out
          refine ((HH.out.1.keep H7.out.2.2).grown g9 fun m hm => ?_).grown (grownBy_setCell _ _ _) fun m hm => ?_
          ·have:=hpbf m hm
           exact ⟨by omega,fun hf => by have:=hfo m hf; omega⟩
          ·simp at hm
           exact ⟨by omega,fun hf => by have:=hfo m hf; omega⟩
         have hBL : Below pb W6 (W9.setCell ⟨pb,0,none⟩ (.slice s9 (k + 1) c9)):=by
          have hsz : pb ≤ W6.heap.size:=Nat.le_of_lt HPB.out
          have b1 : Below pb W6 (W7.alloc (.cells #[.slice ra rn rc] 32)):=HH.out.2.2.grown H7.out.2.2 (Nat.le_trans hsz HH.out.2.2.size) (by simp)
          have b2 : Below pb W6 W9:=b1.grown g9 (Nat.le_trans hsz b1.size) (fun m hm => by have:=(HH.out.2.1.o1.out.lt m hm).1; omega)
          exact b2.setCell (show pb ≤ (⟨pb,0,none⟩ : Addr).block from Nat.le_refl _) _
         have H9:=Lib.hid (And.intro hTM (And.intro hpu hBL))
         clear hTM hpu hBL ef o9 g9 l9
         refine tail_mk e0 ?_
         refine wpTails_cons rfl ?_
         go_wp2_with fail
         refine tail_mk e0 ?_
         refine wpTails_one rfl ?_
         go_wp2_with fail
         refine thenQ_mk ?_
         clear e0 e1 ef0 c7
         go_wp2_with fail
         go_roundw
         case rel => exact ⟨k + 1,k + 1,0,s9,c9,_,a2,c2,vs2,by omega,by go_num,⟨rfl,by omega,.inl rfl⟩,H9.out.1,H9.out.2.1,H9.out.2.2⟩
         case measure => simp [intOf]; omega
        ·obtain rfl : S.vars = n1:=by have:=hn.out; omega
         have hkn : k = S.vars + n2:=by have:=hn.out; omega
         have HKN:=Lib.hid hkn
         have hn2b : n2 ≤ 100:=by omega
         clear hkn
         go_wp2_with fail
         have hp:=HH.out.2.1.p1
         refine wp_region_mix [0,1,2,3] [4,5,6,7,8] (fun w' => w'.cell? ⟨pb,1,none⟩ = some (.slice a2 n2 c2)) (by kernel_rfl) (by kernel_rfl) (by kernel_rfl) ((grownBy_drew0 _).cell hp (by simp)) ?_
         repeat (
          refine wpHeads_cons (v:=?_) rfl (Or.inl ⟨by rfl, ?_⟩) ?_
          rotate_left
          ·(intro W q1; go_simp; try with_reducible rfl)
          simp only [Act.put,List.setIfInBounds_toArray])
         refine wpHeads_nil ?_
         refine wpTails_cons rfl ?_
         go_wp2_with fail
         refine (tlist_any (HH.out.1.keep (grownBy_drew0 _)) k hlt (by omega)).mono ?_
         rintro e W7 ⟨ra,rn,rc,rfl,o7,q7⟩
         have g7 : wr.grownBy W7 none:=grownBy_trans (grownBy_drew0 _) (grownBy_below q7)
         have g8 : wr.grownBy (W7.alloc (.cells #[.slice ra rn rc] 32)) none:=grownBy_trans g7 (grownBy_alloc _ _)
         have H7:=Lib.hid (And.intro o7 (And.intro g7 g8))
         have c7:=g7.cell hp (by simp)
         clear hp o7 q7 g7 g8
         go_wp2_with fail
         refine tail_mk c7 ?_
         refine wpTails_cons rfl ?_
         go_wp2_with fail
         refine tail_mk ((grownBy_alloc _ _).cell c7 (by simp)) ?_
         refine wpTails_cons rfl ?_
         refine wp_appendS (f:=fun x : Value => x) sInt2 rfl rfl _ _ rfl (pb + 1) (.slice a2 n2 c2) vs2 rfl (.slice (some ⟨W7.heap.size,0,none⟩) 1 1) [.slice ra rn rc] rfl (HH.out.2.1.o2.out.grown (H7.out.2.2) (by cases (Value.slice a2 n2 c2).ownBlock <;> simp)) (src_one _ (cell_at1 rfl)) (by simp [Value.oneCell']) (by have:=HH.out.2.1.o2.len; rw [rowsOf_len] at this; simp; omega) (by omega) (by have h1:=H7.out.2.2.size; have h2 : pb < wr.heap.size:=World.block_lt_of_cell? wr _ HH.out.2.1.p0; omega) ?_
         intro v9 W9 o9 g9 l9
         obtain ⟨s9,c9,rfl⟩:=o9.shape (n:=n2 + 1) (by have:=HH.out.2.1.o2.len; rw [rowsOf_len] at this; simp; omega)
         have hpu:=HH.out.2.1.push2 (H7.out.2.2) (by have h:=H7.out.1.alloc (.cells #[.slice ra rn rc] 32); rw [HKN.out] at h; exact h.mono (Nat.le_refl _)) o9 g9 l9
         obtain ⟨e0,e1,ef⟩:=HH.out.2.1.cells H7.out.2.2 (v:=.slice a2 n2 c2) (.inr rfl) g9
         have ef0:=ef 1
         have hTM : TbM S (.slice ca s.cons.length cc) tb ha hc vs M false (W9.setCell ⟨pb,1,none⟩ (.slice s9 (n2 + 1) c9)):=by
          have hpbf : ∀ m,(Value.slice a2 n2 c2).ownBlock = some m→pb < m:=fun m hm => (HH.out.2.1.o2.out.lt m hm).1
          have hfo : ∀ m,Foot (.slice ha S.N hc) vs m→m < pb:=HFT.out
          have htbp:=HTB.out
          refine ((HH.out.1.keep H7.out.2.2).grown g9 fun m hm => ?_).grown (grownBy_setCell _ _ _) fun m hm => ?_
          ·have:=hpbf m hm
           exact ⟨by omega,fun hf => by have:=hfo m hf; omega⟩
          ·simp at hm
           exact ⟨by omega,fun hf => by have:=hfo m hf; omega⟩
         have hBL : Below pb W6 (W9.setCell ⟨pb,1,none⟩ (.slice s9 (n2 + 1) c9)):=by
          have hsz : pb ≤ W6.heap.size:=Nat.le_of_lt HPB.out
          have b1 : Below pb W6 (W7.alloc (.cells #[.slice ra rn rc] 32)):=HH.out.2.2.grown H7.out.2.2 (Nat.le_trans hsz HH.out.2.2.size) (by simp)
          have b2 : Below pb W6 W9:=b1.grown g9 (Nat.le_trans hsz b1.size) (fun m hm => by have:=(HH.out.2.1.o2.out.lt m hm).1; omega)
          exact b2.setCell (show pb ≤ (⟨pb,1,none⟩ : Addr).block from Nat.le_refl _) _
         have H9:=Lib.hid (And.intro hTM (And.intro hpu hBL))
         clear hTM hpu hBL ef o9 g9 l9
         refine tail_mk e1 ?_
         refine wpTails_cons rfl ?_
         go_wp2_with fail
         refine tail_mk e1 ?_
         refine wpTails_one rfl ?_
         go_wp2_with fail
         refine thenQ_mk ?_
         clear e0 e1 ef0 c7
         go_wp2_with fail
         go_roundw
         case rel => exact ⟨k + 1,S.vars,n2 + 1,a1,c1,vs1,s9,c9,_,by omega,by go_num,⟨by have:=HKN.out; omega,by omega,.inr rfl⟩,H9.out.1,H9.out.2.1,H9.out.2.2⟩
         case measure => simp [intOf]; omega
       ·obtain rfl : k = S.N:=by omega
        obtain ⟨rfl,hn2⟩ : S.vars = n1∧S.sites * S.fields = n2:=by
         have:=hn.out
         have hNd : S.N = S.vars + S.sites * S.fields:=rfl
         omega
        obtain ⟨q0,q1, -⟩:=HH.out.2.1
        have r0 : wr.cell? ⟨br,0,none⟩ = some (.slice none 0 0):=by rw [HB6.out.cell (p:=⟨br,0,none⟩) hbr]; exact HR.out.1
        have r1 : wr.cell? ⟨br,1,none⟩ = some (.slice none 0 0):=by rw [HB6.out.cell (p:=⟨br,1,none⟩) hbr]; exact HR.out.2.1
        have f0 : wr.frozen? ⟨br,0,none⟩ = false:=by rw [HB6.out.frozen (p:=⟨br,0,none⟩) hbr]; exact HR.out.2.2.1
        have f1 : wr.frozen? ⟨br,1,none⟩ = false:=by rw [HB6.out.frozen (p:=⟨br,1,none⟩) hbr]; exact HR.out.2.2.2
        have HN2:=Lib.hid hn2
        clear hn2 hlt hk
        go_wp2_with fail
        (try simp only [Exit.inBlock,Exit.then])
        refine bodyPost_ret (v:=.tuple #[.agg #[.slice a1 S.vars c1,.slice a2 n2 c2],.int .i64 0]) (by rw [results_cell_tmp rfl]; go_simp; try rfl) rfl ?_
        have gf:=grownBy_trans (grownBy_setCell wr ⟨br,0,none⟩ (.slice a1 S.vars c1)) (grownBy_setCell (wr.setCell ⟨br,0,none⟩ (.slice a1 S.vars c1)) ⟨br,1,none⟩ (.slice a2 n2 c2))
        have htb:=HTB.out
        have hpb : W.heap.size ≤ pb + 1:=by have h1:=H1.out.size; have h2:=HTW.out; omega
        have G1:=own_lowI (HH.out.2.1.o1.grown kInt gf fun k e hf => by simp at e; have:=(HH.out.2.1.o1.foot kInt k hf).1; omega) hpb
        have G2:=own_lowI (HH.out.2.1.o2.grown kInt gf fun k e hf => by simp at e; have:=(HH.out.2.1.o2.foot kInt k hf).1; omega) hpb
        have hsol:=sol_of_table HS.out.2.1 HL.out.sub (HL.out.shut rfl)
        rw [← HN2.out] at G1 G2 ⊢
        refine .inr ⟨HV.out.1,a1,c1,a2,c2,rowsOf S M 0 S.vars,rowsOf S M S.vars (S.sites * S.fields),_,_,by rw [← HS.out.1],by rw [← HS.out.1]; exact G1,by rw [← HS.out.1]; exact G2,by rw [← HS.out.1]; exact ⟨rowsOf_len _ _ _ _,rowsOf_len _ _ _ _,fun i hi => by rw [rowsOf_nth _ _ _ _ _ hi,Nat.zero_add]; exact hsol i,fun i hi => by rw [rowsOf_nth _ _ _ _ _ hi]; exact hsol _⟩, ?_⟩
        have hbb:=HBB.out
        have hb6 : Below W.heap.size W wr:=H1.out.trans (HB6.out.mono (by omega))
        exact (hb6.setCell (show W.heap.size ≤ (⟨br,0,none⟩ : Addr).block by show W.heap.size ≤ br; omega) _).setCell (show W.heap.size ≤ (⟨br,1,none⟩ : Addr).block by show W.heap.size ≤ br; omega) _
     ·have HL:=Lib.hid hh.out
      clear hh
      go_wp2_with fail
      refine wp_gen (fun Z => TbM S (.slice ca s.cons.length cc) tb ha hc vs M false Z∧Below tb W1 Z) ⟨HL.out.mem.mark false,HL.out.bel.setCell (show tb ≤ (⟨tb,5,none⟩ : Addr).block from Nat.le_refl _) _⟩ ?_
      rintro W3 h3
      have H3:=Lib.hid h3
      clear h3 hm hfz
      go_loopw [8] (fun x w4 => ∃ (k : Nat) (M' : List (List Bool)) (b' : Bool),k ≤ s.cons.length∧x = .int .i64 k∧Hid (TbM S (.slice ca s.cons.length cc) tb ha hc vs M' b' w4∧TStp S.N S.sites (fun p => ∀ i,i < k→Holds S p (nth S.cons i)) M M' false b'∧Kpt tb (.slice ha S.N hc) vs W3 w4)) (fun x _ => s.cons.length - (intOf x).toNat)
      case atStart => exact ⟨0,M,false,by omega,rfl,H3.out.1,TStp.refl H3.out.1.shp fun _ i hi => by omega,Kpt.refl _⟩
      case round =>
       obtain ⟨k,M',b',hk,rfl,hh⟩:=hrel
       have hB4 : Below tb W1 wr:=H3.out.2.trans (Kpt.below H3.out.1 hh.out.2.2)
       have d3 : wr.cell? ⟨bs,3,none⟩ = some (.slice ca s.cons.length cc):=by rw [hB4.cell (p:=⟨bs,3,none⟩) hbs]; exact HD.out.2.2.2
       have HB4:=Lib.hid hB4
       clear hB4
       by_cases hlt : k < s.cons.length
       ·have hBW : Below W.heap.size W wr:=H1.out.trans (HB4.out.mono (by have:=HBB.out; omega))
        obtain ⟨sa,sn,sc,q0,q1,q2,q3,q4,hI,hblk⟩:=HCC.out k hlt
        have hvc:=HV.out.2.cons _ (nth_mem _ _ hlt)
        obtain ⟨c,hcd⟩ : ∃ c,c = (nth s.cons k).C:=⟨_,rfl⟩
        have e0 : (nth s.cons k).k = (c.k : Int):=by rw [hcd]; have:=hvc.kind; show _ = ((nth s.cons k).k.toNat : Int); omega
        have e1 : (nth s.cons k).a = (c.a : Int):=by rw [hcd]; have:=hvc.a.1; show _ = ((nth s.cons k).a.toNat : Int); omega
        have e2 : (nth s.cons k).b = (c.b : Int):=by rw [hcd]; have:=hvc.b.1; show _ = ((nth s.cons k).b.toNat : Int); omega
        have e3 : (nth s.cons k).f = (c.f : Int):=by rw [hcd]; have:=hvc.f'; show _ = ((nth s.cons k).f.toNat : Int); omega
        have e4 : (nth s.cons k).s = c.s.map fun x : Nat => (x : Int):=by rw [hcd]; exact (cast_toNat fun x hx => (hvc.s x hx).1).symm
        have hsl : c.s.length ≤ 12:=by rw [hcd]; exact hvc.slen HC.out.2.sites
        have hcS : nth S.cons k = c:=by rw [HS.out.2.2,nth_map' _ _ _ hlt,hcd]
        have hOkc : c.Ok S:=HS.out.2.1 c (by rw [← hcS]; exact nth_mem _ _ (by rw [HS.out.2.2]; simpa using hlt))
        rw [e4] at hI
        obtain ⟨a8,c8,e8, -⟩:=id hI
        simp only [Value.slice.injEq,List.length_map] at e8
        obtain ⟨rfl,rfl,rfl⟩:=e8
        have p0 : wr.cell? ⟨blk ca,ofs ca + k * 5,none⟩ = some (.int .i64 (c.k : Int)):=by rw [hBW.cell (p:=⟨blk ca,ofs ca + k * 5,none⟩) hblk,q0,e0]
        have p1 : wr.cell? ⟨blk ca,ofs ca + k * 5 + 1,none⟩ = some (.int .i64 (c.a : Int)):=by rw [hBW.cell (p:=⟨blk ca,ofs ca + k * 5 + 1,none⟩) hblk,q1,e1]
        have p2 : wr.cell? ⟨blk ca,ofs ca + k * 5 + 2,none⟩ = some (.int .i64 (c.b : Int)):=by rw [hBW.cell (p:=⟨blk ca,ofs ca + k * 5 + 2,none⟩) hblk,q2,e2]
        have p3 : wr.cell? ⟨blk ca,ofs ca + k * 5 + 3,none⟩ = some (.int .i64 (c.f : Int)):=by rw [hBW.cell (p:=⟨blk ca,ofs ca + k * 5 + 3,none⟩) hblk,q3,e3]
        have p4 : wr.cell? ⟨blk ca,ofs ca + k * 5 + 4,none⟩ = some (.slice sa c.s.length sc):=by rw [hBW.cell (p:=⟨blk ca,ofs ca + k * 5 + 4,none⟩) hblk,q4]
        have hset : ∀ Z,Below tb wr Z→Ints Z (.slice sa c.s.length sc) (c.s.map fun x : Nat => (x : Int)):=fun Z hZ => hI.below (hBW.trans (hZ.mono (by have:=HBB.out; omega)))
        have H4:=Lib.hid (And.intro hset (And.intro hOkc hcS))
        clear hset hOkc hcS e0 e1 e2 e3 e4 q0 q1 q2 q3 q4 hI hblk hvc hcd hBW
        go_wp2_with fail
        refine (tapply_any hh.out.1 c H4.out.2.1 ⟨bv,bsi,bfi,hbN⟩ sa sc H4.out.1 (by omega)).mono ?_
        rintro e W8 ⟨⟨v2,rfl⟩,M2,b2,hT2,hS2,hK2⟩
        have H8:=Lib.hid (And.intro hT2 (And.intro hS2 hK2))
        clear hT2 hS2 hK2
        go_wp2_with fail
        go_roundw
        case rel => exact ⟨k + 1,M2,b2,by omega,by go_num,H8.out.1,hh.out.2.1.thenW H8.out.2.1 _ (fun p hp i hi => hp i (by omega)) (fun p hs hp => by have:=hp k (by omega); rw [H4.out.2.2] at this; exact this) (fun hF hG i hi => by
         by_cases e : i = k
         ·subst e; rw [H4.out.2.2]; exact hG
         ·exact hF i (by omega)),hh.out.2.2.trans H8.out.2.2⟩
        case measure => simp [intOf]; omega
       ·obtain rfl : k = s.cons.length:=by omega
        have HH:=Lib.hid hh.out
        clear hh
        go_wp2_with fail
        go_roundg (gas S M' b')
        case measure => exact gas_lt HL.out.mem.shp HH.out.2.1
        case rel =>
         have hSc : S.cons.length = s.cons.length:=by rw [HS.out.2.2,List.length_map]
         refine ⟨M',b',rfl,HH.out.1,HH.out.2.1.snd _ HL.out.sub (fun i hi => pts_shut S _ (nth_mem _ _ (by omega))),fun hb c hc => ?_,HB4.out⟩
         obtain ⟨-,h2,h3⟩:=HH.out.2.1.same hb
         subst h2
         obtain ⟨i,hi,rfl⟩:=mem_nth hc
         exact h3 i (by omega)
 ·have hz : (chkCode s != 0) = true:=by simpa using h0
  have HZ:=Lib.hid h0
  generalize hcd : chkCode s = code at *
  have HCD:=Lib.hid hcd
  clear hcd h0
  go_wp2_with fail
  (try simp only [Exit.inBlock,Exit.then])
  refine bodyPost_ret (v:=.tuple #[.agg #[.slice none 0 0,.slice none 0 0],.int .i64 code]) (by rw [results_cell_tmp rfl]; go_simp; try rfl) rfl ?_
  refine .inl ⟨by rw [HCD.out]; exact HZ.out,by rw [HCD.out], ?_⟩
  exact (H1.out.setCell (show W.heap.size ≤ (⟨W.heap.size + 1,0,none⟩ : Addr).block by simp) _).setCell (show W.heap.size ≤ (⟨W.heap.size + 1,1,none⟩ : Addr).block by simp) _
end Go.Proofs.YtgblfjccccdidaaGreat
end
section
namespace Go.Clp
open Go.Dfl (nth)
open Go.Tj (offH)
theorem offH_zero (hd : List Int) : offH 0 hd = 0:=rfl
theorem offH_yes {k : Nat} {hd : List Int} (h0 : 0 ≤ nth hd k) (h : nth hd k ≠ (k : Int)) : offH (k + 1) hd = offH k hd + 1:=by
 unfold offH; rw [List.range_succ,List.filter_append,List.length_append]; simp [h0,h]
theorem offH_no {k : Nat} {hd : List Int} (h : nth hd k = (k : Int)) : offH (k + 1) hd = offH k hd:=by
 unfold offH; rw [List.range_succ,List.filter_append,List.length_append]; simp [h]
end Go.Clp
namespace Go.Proofs.YtgblfjccccdidaaGreat
open Go.RowKit Go.Dfl Go.Clp Go.Gra Go.Tj
open Go.And (R Sy Vld Sm chkG chkCode colC colC_ok chkG_ok chkCode_ok Syst)
structure RsM (W V : World) (s : Sy) (cv : Value) (bs br : Nat) (Z : World) : Prop where
 bel : Below W.heap.size W Z
 box : BoxS Z bs s cv
 cons : ConsIn Z cv s.cons
 res : ExM br (.slice none 0 0) (.slice none 0 0) [] [] [] [] V Z
theorem RsM.below {W V : World} {s : Sy} {cv : Value} {bs br : Nat} {Z Z' : World} (h : RsM W V s cv bs br Z) (hb : Below Z.heap.size Z Z') : RsM W V s cv bs br Z' :=
 ⟨h.bel.trans (hb.mono h.bel.size),h.box.grown (grownBy_below hb) (by simp),h.cons.below hb,h.res.grown (grownBy_below hb)⟩
set_option maxHeartbeats 12800000 in
set_option maxRecDepth 100000 in
theorem rSolveC_any (s : Sy) (cv : Value) (W : World) (hc : ConsIn W cv s.cons) (hs : Sm s) :
  Calls Tryz.prog 18 #[SysV s cv] W (GSolR s W):=by
 obtain ⟨ca,cc,rfl, -, -, -⟩:=hc.out
 have hl9 : s.cons.length ≤ 1000:=by have:=hs.cons; omega
 have hbs:=(BoxS.new W s (.slice ca s.cons.length cc) 24).grown (grownBy_alloc _ (.cells #[.slice none 0 0,.slice none 0 0] 34)) (by simp)
 have hrx:=ExM.new (W.alloc (.cells #[.int .i64 s.vars,.int .i64 s.sites,.int .i64 s.fields,.slice ca s.cons.length cc] 24)) 34
 rw [World.size_alloc] at hrx
 have hb0 : Below W.heap.size W ((W.alloc (.cells #[.int .i64 s.vars,.int .i64 s.sites,.int .i64 s.fields,.slice ca s.cons.length cc] 24)).alloc (.cells #[.slice none 0 0,.slice none 0 0] 34)):=((Below.refl _ _).alloc (Nat.le_refl _) _).alloc (by simp) _
 have H0 : Hid (RsM W _ s (.slice ca s.cons.length cc) W.heap.size (W.heap.size + 1) _):=Lib.hid (RsM.mk hb0 hbs (hc.below hb0) hrx)
 have HS:=Lib.hid hs
 clear hc hs hbs hrx hb0
 unfold SysV
 go_enter Tryz.func18,Tryz.ntmps18
 go_wp2_with fail
 generalize hVd : (W.alloc (.cells #[.int .i64 s.vars,.int .i64 s.sites,.int .i64 s.fields,.slice ca s.cons.length cc] 24)) = V at H0
 have hVs : V.heap.size = W.heap.size + 1:=by rw [← hVd]; simp
 clear hVd
 have HVS:=Lib.hid hVs
 clear hVs
 refine calls_genC (fun Z => RsM W V s (.slice ca s.cons.length cc) W.heap.size (W.heap.size + 1) Z) H0.out ?_
 intro Z0 hZ0
 obtain ⟨bs,hb1⟩ : ∃ b,b = W.heap.size:=⟨_,rfl⟩
 obtain ⟨br,hb2⟩ : ∃ b,b = W.heap.size + 1:=⟨_,rfl⟩
 rw [← hb2, ← hb1] at hZ0
 rw [← hb2, ← hb1]
 have HB:=Lib.hid (And.intro hb1 hb2)
 have HZ:=Lib.hid hZ0
 clear hZ0 hb1 hb2 H0
 have hck:=rCk19_any s (.slice ca s.cons.length cc) _ HZ.out.cons (fun Z hz => rCheckC_any s _ Z hz hl9)
 unfold SysV at hck
 refine hck.mono ?_
 rintro e W1 ⟨rfl,q1⟩
 have H1:=Lib.hid (HZ.out.below q1)
 obtain ⟨d0,d1,d2,d3⟩:=H1.out.box
 clear hck q1 HZ
 by_cases h0 : colC s = 0
 ·have hv:=chkCode_ok.1 (chkG_ok (colC_ok h0).1).1
  have HV:=Lib.hid (And.intro h0 hv)
  rw [h0]
  have hz : ((0 : Int) != 0) = false:=rfl
  clear h0 hv
  go_wp2_with fail
  have hsv:=rSolveO_any s (.slice ca s.cons.length cc) _ H1.out.cons HS.out
  unfold SysV at hsv
  refine Calls.mono hsv ?_
  intro e W2 hpost
  rcases hpost with ⟨hne, -⟩ | ⟨-,ua,uc,va,vc,lu,lv,us,vs,rfl,ho1,ho2,hsol,b2⟩
  ·exact absurd (chkCode_ok.2 HV.out.2) hne
  obtain ⟨V2,hV2⟩ : ∃ V2,V2 = s.S.vars:=⟨_,rfl⟩
  obtain ⟨M,hM⟩ : ∃ M,M = s.S.sites * s.S.fields:=⟨_,rfl⟩
  rw [← hV2] at ho1
  rw [← hM] at ho2
  rw [← hV2, ← hM]
  have hpi : PtsIn W2 (.slice ua V2 uc) (.slice va M vc) lu lv:=⟨⟨_,ho1.grid⟩,⟨_,ho2.grid⟩⟩
  have HOW:=Lib.hid (And.intro (And.intro ho1 ho2) (show br < W1.heap.size from H1.out.res.lt))
  have H2:=Lib.hid (And.intro (H1.out.below b2) (And.intro hpi (And.intro hsol (And.intro hV2 hM))))
  clear hpi hsol hV2 hM b2 hsv d0 d1 d2 d3 H1 ho1 ho2
  go_upto_region 5 with fail
  have hal : Below W2.heap.size W2 (W2.alloc (.cells #[.slice ua V2 uc,.slice va M vc] 34)):=(Below.refl _ _).alloc (Nat.le_refl _) _
  refine wp_gen (fun Z => RsM W V s (.slice ca s.cons.length cc) bs br Z∧PtsB W2.heap.size (.slice ua V2 uc) (.slice va M vc) lu lv Z∧Below W2.heap.size W2 Z) ⟨H2.out.1.below hal,PtsB.new H2.out.2.1 34,hal⟩ ?_
  intro W3 h3
  obtain ⟨bp,hbp⟩ : ∃ b,b = W2.heap.size:=⟨_,rfl⟩
  have HB3:=Lib.hid h3.2.2
  have h3:=And.intro h3.1 h3.2.1
  rw [← hbp] at h3 ⊢
  have HL:=Lib.hid (And.intro H2.out.2.2.1 (And.intro H2.out.2.2.2.1 H2.out.2.2.2.2))
  have H3:=Lib.hid h3
  clear h3 hbp hal H2
  have e1:=HS.out.vars
  have e2:=HS.out.sites
  have e3:=HS.out.fields
  have v0:=HV.out.2.vars
  have v1:=HV.out.2.sites
  have v2:=HV.out.2.fields
  obtain ⟨n,hn⟩ : ∃ n,n = s.S.N:=⟨_,rfl⟩
  obtain ⟨m,hm⟩ : ∃ m,m = s.sites * s.fields:=⟨_,rfl⟩
  have hm0 : 0 ≤ m:=by rw [hm]; exact Int.mul_nonneg v1 v2
  have hm1 : m ≤ 60:=by
   have h : s.sites * s.fields ≤ 12 * 5:=Int.mul_le_mul (by omega) (by omega) (by omega) (by omega)
   omega
  have hnm : s.vars + m = (n : Int):=by
   rw [hn,hm]
   show _ = (((s.vars.toNat + s.sites.toNat * s.fields.toNat : Nat)) : Int)
   rw [Int.natCast_add,Int.natCast_mul,Int.toNat_of_nonneg v0,Int.toNat_of_nonneg v1,Int.toNat_of_nonneg v2]
  have hn100 : n ≤ 100:=by omega
  have w1 : IntKind.i64.wrap (s.sites * s.fields) = m:=by rw [← hm]; exact IntWalk.i64_in _ (by omega)
  have w2 : IntKind.i64.wrap (s.vars + m) = (n : Int):=by rw [← hnm]; exact IntWalk.i64_in _ (by omega)
  have hbd:=sol_bnd HV.out.2 HL.out.1 HS.out
  have hui : ∀ i, ∀ x ∈ nth lu i,0 ≤ x∧x < s.sites:=fun i x hx => by
   by_cases hi : i < lu.length
   ·exact (hbd.1 i hi).1 x hx
   ·rw [nth_out _ _ (by omega)] at hx; cases hx
  have hus : ∀ i,(nth lu i).length ≤ 12:=fun i => by
   by_cases hi : i < lu.length
   ·exact (hbd.1 i hi).2
   ·rw [nth_out _ _ (by omega)]; exact Nat.zero_le _
  have hrng : ∀ e ∈ finL s lu s.cons.length,0 ≤ e.1∧e.1 < n∧0 ≤ e.2∧e.2 < n:=fun e he => by
   obtain ⟨a,b,rfl,h⟩:=(mem_finL HV.out.2 (fun i x hx => (hui i x hx).1) e).1 he
   have:=eF_lt HV.out.2 HS.out HL.out.1 h
   rw [hn]
   dsimp only
   omega
  have HN:=Lib.hid (And.intro hn (And.intro hui (And.intro hus hrng)))
  obtain ⟨s0,s1,s2,s3⟩:=H3.out.1.box
  obtain ⟨p0,p1, -⟩:=H3.out.2
  have HSS:=Lib.hid (show W3.cell? ⟨bs,0,none⟩ = some (.int .i64 s.vars)∧W3.cell? ⟨bs,1,none⟩ = some (.int .i64 s.sites)∧W3.cell? ⟨bs,2,none⟩ = some (.int .i64 s.fields)∧W3.cell? ⟨bs,3,none⟩ = some (.slice ca s.cons.length cc)∧W3.cell? ⟨bp,0,none⟩ = some (.slice ua V2 uc)∧W3.cell? ⟨bp,1,none⟩ = some (.slice va M vc) from ⟨s0,s1,s2,s3,p0,p1⟩)
  clear hn hm hm0 hnm hbd hui hus hrng s0 s1 s2 s3 p0 p1
  refine wp_region_mix [0,1,2,3,4,5,6,7,8,9] [10,11,12] (fun w' => w'.cell? ⟨bs,0,none⟩ = some (.int .i64 s.vars)∧w'.cell? ⟨bs,1,none⟩ = some (.int .i64 s.sites)∧w'.cell? ⟨bs,2,none⟩ = some (.int .i64 s.fields)∧w'.cell? ⟨bs,3,none⟩ = some (.slice ca s.cons.length cc)∧w'.cell? ⟨bp,0,none⟩ = some (.slice ua V2 uc)∧w'.cell? ⟨bp,1,none⟩ = some (.slice va M vc)) (by kernel_rfl) (by kernel_rfl) (by kernel_rfl) HSS.out ?_
  repeat (
   refine wpHeads_cons (v:=?_) rfl (Or.inl ⟨by rfl, ?_⟩) ?_
   rotate_left
   ·(intro W hW; obtain ⟨x1,x2,x3,x4,x5,x6⟩:=hW; (try go_simp); try with_reducible rfl)
   simp only [Act.put,List.setIfInBounds_toArray,List.getElem_toArray,List.getElem_cons_zero,List.getElem_cons_succ,List.set_cons_succ,List.set_cons_zero])
  refine wpHeads_nil ?_
  refine wpTails_cons rfl ?_
  clear w1 w2
  have hbD : Below W3.heap.size W3 W3.drew:=(Below.refl _ _).drew
  have H4:=Lib.hid (And.intro (H3.out.1.below hbD) (H3.out.2.below hbD))
  have HB4:=Lib.hid (HB3.out.trans (hbD.mono HB3.out.size))
  clear hbD HSS H3 HB3
  generalize W3.drew = W4 at *
  go_wp2_with fail
  obtain ⟨⟨us4,gu⟩,⟨vs4,gv⟩⟩:=H4.out.2.pts
  have hfin:=rFinal_any s (.slice ca s.cons.length cc) (.slice ua V2 uc) (.slice va M vc) us4 vs4 lu lv W4 H4.out.1.cons HS.out HV.out.2 gu gv HL.out.1.1 HN.out.2.1 HN.out.2.2.1
  unfold SysV at hfin
  refine Calls.mono hfin ?_
  rintro e W5 ⟨⟨ev,rfl,hpr⟩,b5⟩
  have H5:=Lib.hid (And.intro (H4.out.1.below b5) (And.intro (H4.out.2.below b5) hpr))
  have HB5:=Lib.hid (HB4.out.trans (b5.mono HB4.out.size))
  clear hfin gu gv hpr b5 H4 HB4
  go_wp2_with fail
  have HS5 : W5.cell? ⟨bs,0,none⟩ = some (.int .i64 s.vars)∧W5.cell? ⟨bs,1,none⟩ = some (.int .i64 s.sites)∧W5.cell? ⟨bs,2,none⟩ = some (.int .i64 s.fields)∧W5.cell? ⟨bs,3,none⟩ = some (.slice ca s.cons.length cc)∧W5.cell? ⟨bp,0,none⟩ = some (.slice ua V2 uc)∧W5.cell? ⟨bp,1,none⟩ = some (.slice va M vc):=⟨H5.out.1.box.1,H5.out.1.box.2.1,H5.out.1.box.2.2.1,H5.out.1.box.2.2.2,H5.out.2.1.p0,H5.out.2.1.p1⟩
  refine tail_mk HS5 ?_
  clear HS5
  refine wpTails_cons rfl ?_
  go_wp2_with fail
  refine (rLeaders_any n ev (finL s lu s.cons.length) _ H5.out.2.2 HN.out.2.2.2 (by omega)).mono ?_
  rintro e W6 ⟨lw,l,rfl,hir,hl,b6⟩
  have H6:=Lib.hid (And.intro (H5.out.1.below b6) (And.intro (H5.out.2.1.below b6) (And.intro hir hl)))
  have HB6:=Lib.hid (HB5.out.trans (b6.mono HB5.out.size))
  clear hir hl b6 H5 HB5
  go_wp2_with fail
  have HS6 : W6.cell? ⟨bs,0,none⟩ = some (.int .i64 s.vars)∧W6.cell? ⟨bs,1,none⟩ = some (.int .i64 s.sites)∧W6.cell? ⟨bs,2,none⟩ = some (.int .i64 s.fields)∧W6.cell? ⟨bs,3,none⟩ = some (.slice ca s.cons.length cc)∧W6.cell? ⟨bp,0,none⟩ = some (.slice ua V2 uc)∧W6.cell? ⟨bp,1,none⟩ = some (.slice va M vc):=⟨H6.out.1.box.1,H6.out.1.box.2.1,H6.out.1.box.2.2.1,H6.out.1.box.2.2.2,H6.out.2.1.p0,H6.out.2.1.p1⟩
  refine tail_mk HS6 ?_
  clear HS6
  refine wpTails_one rfl ?_
  go_wp2_with fail
  refine thenQ_mk ?_
  obtain ⟨la,lc,rfl, -,li,lcell, -⟩:=Sliced.out1 H6.out.2.2.1 sIntC
  have hVn : V2 ≤ n:=by
   have h1:=HL.out.2.1
   have h2:=HN.out.1
   have h3 : s.S.N = s.S.vars + s.S.sites * s.S.fields:=rfl
   omega
  have hVv : s.vars = (V2 : Int):=by have h1:=HL.out.2.1; have h3 : s.S.vars = s.vars.toNat:=rfl; omega
  have hV40 : V2 ≤ 40:=by omega
  obtain ⟨ln,hln⟩ : ∃ ln,ln = l.length:=⟨_,rfl⟩
  have hln2 : V2 ≤ ln:=by rw [hln,H6.out.2.2.2.1]; exact hVn
  have d0 : W6.cell? ⟨bs,0,none⟩ = some (.int .i64 (V2 : Int)):=by rw [← hVv]; exact H6.out.1.box.1
  have HC:=Lib.hid (And.intro lcell (And.intro li (And.intro hln (And.intro hVv hVn))))
  rw [← hln]
  clear lcell li hln hVv hVn e1 v0
  go_wp2_with fail
  go_loop [9,10] (fun y x => ∃ k : Nat,k ≤ V2∧x = .int .i64 (k : Int)∧y = .int .i64 ((offH k l : Nat) : Int)) (fun _ x => V2 - (intOf x).toNat)
  case atStart => exact ⟨0,by omega,rfl,by rw [offH_zero]; rfl⟩
  case round =>
   obtain ⟨k,hk,rfl,rfl⟩:=hrel
   by_cases hlt : k < V2
   ·have hki : (k : Int) < (V2 : Int):=by omega
    have hki2:=HC.out.2.1 .i64 (k : Int) (by omega) (by have h:=HC.out.2.2.1; omega)
    rw [Int.toNat_natCast, ← HC.out.2.2.1] at hki2
    obtain ⟨mm,hm1,hm2⟩:=H6.out.2.2.2.2 k (by have:=HC.out.2.2.2.2; omega)
    obtain ⟨o,ho⟩ : ∃ o,o = offH k l:=⟨_,rfl⟩
    have hol : o ≤ 40:=by rw [ho]; exact Nat.le_trans (off_le k l) (by omega)
    have hkn : W6.cell? ⟨blk la,ofs la + k,none⟩ = some (.int .i64 (mm : Int)):=by rw [← hm1]; exact HC.out.1 k (by have h:=HC.out.2.2.1; omega)
    rw [← ho]
    by_cases hmk : mm = k
    ·have hno:=offH_no (hd:=l) (k:=k) (by rw [hm1,hmk])
     rw [← ho] at hno
     have HO:=Lib.hid (And.intro hno ho)
     clear hno ho hm1 hm2
     obtain rfl:=hmk
     go_wp2_with fail
     go_round
     case rel => exact ⟨mm + 1,by omega,by go_num,by rw [HO.out.1]⟩
     case measure => simp [intOf]; omega
    ·have hyes:=offH_yes (hd:=l) (k:=k) (by rw [hm1]; omega) (by rw [hm1]; omega)
     rw [← ho] at hyes
     have t1 : ((mm : Int) != (k : Int)) = true:=by simp; omega
     have t2 : (mm == k) = false:=by simp; omega
     have t3 : (mm != k) = true:=by simp; omega
     have HO:=Lib.hid (And.intro hyes ho)
     clear hyes ho hm1 hm2 hmk
     go_wp2_with fail
     go_round
     case rel => exact ⟨k + 1,by omega,by go_num,by rw [HO.out.1]; go_num⟩
     case measure => simp [intOf]; omega
   ·obtain rfl : k = V2:=by omega
    obtain ⟨mg,hmg⟩ : ∃ mg,mg = offH k l:=⟨_,rfl⟩
    rw [← hmg]
    have HMG:=Lib.hid hmg
    obtain ⟨p0,p1, -⟩:=H6.out.2.1
    have r0:=H6.out.1.res.c0
    have r1:=H6.out.1.res.c1
    have f0:=H6.out.1.res.frz 0
    have f1:=H6.out.1.res.frz 1
    have hbr : W.heap.size ≤ br:=by rw [HB.out.2]; omega
    clear hmg
    go_wp2_with fail
    (try simp only [Exit.inBlock,Exit.then])
    refine bodyPost_ret (v:=.tuple #[.agg #[.slice ua k uc,.slice va M vc],.int .i64 (mg : Int),.int .i64 0]) (by rw [results_cell3 rfl]; go_simp; try rfl) rfl ?_
    have gs:=grownBy_trans (grownBy_setCell W6 ⟨br,0,none⟩ (.slice ua k uc)) (grownBy_setCell (W6.setCell ⟨br,0,none⟩ (.slice ua k uc)) ⟨br,1,none⟩ (.slice va M vc))
    have g26 : W2.grownBy _ (some br):=grownBy_trans (grownBy_widen (grownBy_below HB6.out)) gs
    have hlt:=HOW.out.2
    have G1:=(HOW.out.1.1.grown kInt g26 fun q e hf => by have:=Option.some.inj e; have:=(HOW.out.1.1.foot kInt q hf).1; omega).grid
    have G2:=(HOW.out.1.2.grown kInt g26 fun q e hf => by have:=Option.some.inj e; have:=(HOW.out.1.2.foot kInt q hf).1; omega).grid
    refine .inr ⟨HV.out.1,ua,uc,va,vc,lu,lv,l, ?_, ?_,HL.out.1,⟨H6.out.2.2.2.1.trans HN.out.1,fun v hv => ?_⟩, ?_⟩
    ·rw [HMG.out,HL.out.2.1,HL.out.2.2]
    ·rw [← HL.out.2.1, ← HL.out.2.2]; exact ⟨⟨_,G1⟩,⟨_,G2⟩⟩
    ·obtain ⟨mm,h1,h2⟩:=H6.out.2.2.2.2 v (by rw [HN.out.1]; exact hv)
     exact ⟨mm,h1,Go.Clp.IsHd.iff (h:=fun a b => eI_finL HV.out.2 (fun i x hx => (HN.out.2.1 i x hx).1) a b) h2⟩
    ·exact (H6.out.1.bel.setCell (show W.heap.size ≤ (⟨br,0,none⟩ : Addr).block from hbr) _).setCell (show W.heap.size ≤ (⟨br,1,none⟩ : Addr).block from hbr) _
 ·have x0 : (colC s != 0) = true:=by simpa using h0
  have r0:=H1.out.res.c0
  have r1:=H1.out.res.c1
  have f0:=H1.out.res.frz 0
  have f1:=H1.out.res.frz 1
  have HC:=Lib.hid h0
  have hbr : W.heap.size ≤ br:=by rw [HB.out.2]; omega
  clear h0
  generalize hcd : colC s = code at *
  have HCD:=Lib.hid hcd
  clear hcd
  go_wp2_with fail
  (try simp only [Exit.inBlock,Exit.then])
  refine bodyPost_ret (v:=.tuple #[.agg #[.slice none 0 0,.slice none 0 0],.int .i64 0,.int .i64 code]) (by rw [results_cell3 rfl]; go_simp; try rfl) rfl ?_
  refine .inl ⟨by rw [HCD.out]; exact HC.out,by rw [HCD.out], ?_⟩
  exact (H1.out.bel.setCell (show W.heap.size ≤ (⟨br,0,none⟩ : Addr).block from hbr) _).setCell (show W.heap.size ≤ (⟨br,1,none⟩ : Addr).block from hbr) _
end Go.Proofs.YtgblfjccccdidaaGreat
end
section
namespace Go.Proofs.YtgblfjccccdidaaGreat
open Go.RowKit Go.Dfl Go.And
theorem grid_out {W : World} {ua : Option Addr} {n uc : Nat} {us : List Value} {a : List (List Int)} (h : Grid (Value.int .i64) W (.slice ua n uc) us a) : n = a.length∧a.length ≤ 9223372036854775807 ∧
  (∀ x : Int,0 ≤ x→x < a.length→∀ Z,(Instr.indexAt 27 (.slice ua a.length uc) (.int .i64 x)).run Tryz.prog Z = .ok (.pointer (some ⟨blk ua,ofs ua + x.toNat,none⟩)) Z) ∧
  ∀ j,j < a.length→∃ xa xc,W.cell? ⟨blk ua,ofs ua + j,none⟩ = some (.slice xa (nth a j).length xc)∧Ints W (.slice xa (nth a j).length xc) (nth a j)∧(nth a j).length ≤ 9223372036854775807:=by
 obtain ⟨va,vc,e,hm,hi,hc, -⟩:=h.1.out1 sInt2
 simp only [Value.slice.injEq] at e
 obtain ⟨rfl,hl,rfl⟩:=e
 rw [h.2.1] at hm hi hc hl
 refine ⟨hl,hm,fun x => hi .i64 x,fun j hj => ?_⟩
 obtain ⟨xa,xc,e2,hx, -⟩:=(h.2.2 j hj).out1 sInt
 refine ⟨xa,xc, ?_, ?_,hx⟩
 ·rw [← e2]; exact hc j hj
 ·rw [← e2]; exact h.2.2 j hj
set_option maxHeartbeats 3200000 in
set_option maxRecDepth 100000 in
theorem rSame_eq (u1 u2 v1 v2 : Value) (a b : List (List Int)) (W : World) (hu : PtsIn W u1 u2 a b) (hv : PtsIn W v1 v2 a b) :
  Calls Tryz.prog 19 #[.agg #[u1,u2],.agg #[v1,v2]] W (TruePost W):=by
 obtain ⟨ua1,uc1,ua2,uc2,rfl,rfl⟩:=hu.shape
 obtain ⟨va1,vc1,va2,vc2,rfl,rfl⟩:=hv.shape
 have HC:=Lib.hid (And.intro hu hv)
 clear hu hv
 go_enter Tryz.func19,Tryz.ntmps19
 go_wp2_with fail
 refine calls_gen (fun Z => PtsB W.heap.size (.slice ua1 a.length uc1) (.slice ua2 b.length uc2) a b Z∧PtsB (W.heap.size + 1) (.slice va1 a.length vc1) (.slice va2 b.length vc2) a b Z∧Below W.heap.size W Z) ⟨(PtsB.new HC.out.1 34).below ((Below.refl _ _).alloc (Nat.le_refl _) _), ?_,below2' _ _ _⟩ ?_
 ·have h:=PtsB.new (HC.out.2.below ((Below.refl _ _).alloc (Nat.le_refl _) (.cells #[.slice ua1 a.length uc1,.slice ua2 b.length uc2] 34))) 34
  rw [World.size_alloc] at h
  exact h
 rintro Z0 h0
 obtain ⟨bp,hbp⟩ : ∃ bp,bp = W.heap.size:=⟨_,rfl⟩
 obtain ⟨bq,hbq⟩ : ∃ bq,bq = W.heap.size + 1:=⟨_,rfl⟩
 have H0 : Hid (PtsB bp (.slice ua1 a.length uc1) (.slice ua2 b.length uc2) a b Z0∧PtsB bq (.slice va1 a.length vc1) (.slice va2 b.length vc2) a b Z0∧Below W.heap.size W Z0):=by rw [hbp,hbq]; exact h0
 rw [← hbq, ← hbp]
 clear h0 hbp hbq HC
 refine (rWithin_any _ _ _ _ a b a b _ H0.out.1.pts H0.out.2.1.pts).mono ?_
 rintro e W1 ⟨rfl,r1⟩
 rw [winB_refl,winB_refl,Bool.and_true]
 have H1:=Lib.hid (And.intro (H0.out.1.below r1) (And.intro (H0.out.2.1.below r1) (H0.out.2.2.trans (r1.mono H0.out.2.2.size))))
 clear H0 r1
 obtain ⟨p0,p1, -⟩:=H1.out.1
 obtain ⟨q0,q1, -⟩:=H1.out.2.1
 go_wp2_with fail
 refine (rWithin_any _ _ _ _ a b a b _ H1.out.2.1.pts H1.out.1.pts).mono ?_
 rintro e W2 ⟨rfl,r2⟩
 rw [winB_refl,winB_refl,Bool.and_true]
 have H2:=Lib.hid (And.intro (H1.out.1.below r2) (And.intro (H1.out.2.1.below r2) (H1.out.2.2.trans (r2.mono H1.out.2.2.size))))
 clear H1 r2 p0 p1 q0 q1
 obtain ⟨p0,p1,⟨us1,g1⟩,us2,g2⟩:=H2.out.1
 obtain ⟨q0,q1,⟨vs1,g3⟩,vs2,g4⟩:=H2.out.2.1
 obtain ⟨-,m1,i1,c1⟩:=grid_out g1
 obtain ⟨-,m2,i2,c2⟩:=grid_out g2
 obtain ⟨-,m3,i3,c3⟩:=grid_out g3
 obtain ⟨-,m4,i4,c4⟩:=grid_out g4
 have C1:=Lib.hid c1
 have C2:=Lib.hid c2
 have C3:=Lib.hid c3
 have C4:=Lib.hid c4
 clear c1 c2 c3 c4 g1 g2 g3 g4
 go_wp2_with fail
 go_loopw [5] (fun x wr => ∃ k : Nat,k ≤ a.length∧x = .int .i64 k∧Qt W2 wr) (fun x _ => a.length - (intOf x).toNat)
 case atStart => exact ⟨0,by omega,rfl,by exact (by first | exact Qt.refl _ | exact Qt.drewN _ _ | exact (Qt.drewN _ _).trans (Qt.drewN _ _) | exact ((Qt.drewN _ _).trans (Qt.drewN _ _)).trans (Qt.drewN _ _) | exact Qt.drew _ | exact (Qt.drewN _ _).trans (Qt.drew _))⟩
 case round =>
  obtain ⟨k,hk,rfl,⟨nw,rfl⟩⟩:=hrel
  by_cases hlt : k < a.length
  ·obtain ⟨xa,xc,c1, -,x1⟩:=C1.out k hlt
   obtain ⟨ya,yc,c2, -,x2⟩:=C3.out k hlt
   obtain ⟨n,hn⟩ : ∃ n,n = (nth a k).length:=⟨_,rfl⟩
   rw [← hn] at c1 c2 x1
   clear hn x2
   go_wp2_with fail
   go_quiet (fail)
   go_wp2_with fail
   go_roundw
   case rel => exact ⟨k + 1,by omega,by go_num,(by first | exact Qt.refl _ | exact Qt.drewN _ _ | exact (Qt.drewN _ _).trans (Qt.drewN _ _) | exact ((Qt.drewN _ _).trans (Qt.drewN _ _)).trans (Qt.drewN _ _) | exact Qt.drew _ | exact (Qt.drewN _ _).trans (Qt.drew _))⟩
   case measure => simp [intOf]; omega
  ·obtain rfl : k = a.length:=by omega
   go_wp2_with fail
   go_loopw [6] (fun x wr => ∃ k : Nat,k ≤ b.length∧x = .int .i64 k∧Qt W2 wr) (fun x _ => b.length - (intOf x).toNat)
   case atStart => exact ⟨0,by omega,rfl,by exact (by first | exact Qt.refl _ | exact Qt.drewN _ _ | exact (Qt.drewN _ _).trans (Qt.drewN _ _) | exact ((Qt.drewN _ _).trans (Qt.drewN _ _)).trans (Qt.drewN _ _) | exact Qt.drew _ | exact (Qt.drewN _ _).trans (Qt.drew _))⟩
   case round =>
    obtain ⟨k,hk,rfl,⟨nw,rfl⟩⟩:=hrel
    by_cases hlt : k < b.length
    ·obtain ⟨xa,xc,c1, -,x1⟩:=C2.out k hlt
     obtain ⟨ya,yc,c2, -,x2⟩:=C4.out k hlt
     obtain ⟨n,hn⟩ : ∃ n,n = (nth b k).length:=⟨_,rfl⟩
     rw [← hn] at c1 c2 x1
     clear hn x2
     go_wp2_with fail
     go_quiet (fail)
     go_wp2_with fail
     go_roundw
     case rel => exact ⟨k + 1,by omega,by go_num,(by first | exact Qt.refl _ | exact Qt.drewN _ _ | exact (Qt.drewN _ _).trans (Qt.drewN _ _) | exact ((Qt.drewN _ _).trans (Qt.drewN _ _)).trans (Qt.drewN _ _) | exact Qt.drew _ | exact (Qt.drewN _ _).trans (Qt.drew _))⟩
     case measure => simp [intOf]; omega
    ·obtain rfl : k = b.length:=by omega
     go_wp2_with fail
     go_ret
     exact ⟨rfl,below_drewN H2.out.2.2 _⟩
end Go.Proofs.YtgblfjccccdidaaGreat
end
section
namespace Go.Proofs.YtgblfjccccdidaaGreat
open Go.ChangeShapes Go.WideShapes Go.ChangeAt Go.RowKit Go.Dfl Go.Clp Go.Tj
open Go.And (R Sy Vld Sm chkG chkCode colC colC_ok chkG_ok chkCode_ok Syst)
def SolG (s : Sy) (lu lv : List (List Int)) (o : Nat) : Prop:=(colC s ≠ 0∧lu = []∧lv = []∧o = 0) ∨ (colC s = 0∧Sol s.S lu lv∧∃ hd,FinHd s lu hd∧o = offH s.S.vars hd)
theorem SolG.unique {s : Sy} {lu lv lu' lv' : List (List Int)} {o o' : Nat} (h : SolG s lu lv o) (k : SolG s lu' lv' o') : lu = lu'∧lv = lv'∧o = o':=by
 rcases h with ⟨h0,rfl,rfl,rfl⟩ | ⟨h0,h,hd,h1,rfl⟩
 ·rcases k with ⟨-,rfl,rfl,rfl⟩ | ⟨k0, -⟩
  ·exact ⟨rfl,rfl,rfl⟩
  ·exact absurd k0 h0
 ·rcases k with ⟨k0, -⟩ | ⟨-,k,hd',k1,rfl⟩
  ·exact absurd h0 k0
  ·obtain ⟨rfl,rfl⟩:=h.unique k
   exact ⟨rfl,rfl,off_unique (n:=s.S.N) (show s.S.vars ≤ s.S.vars + s.S.sites * s.S.fields by omega) h1.2 k1.2⟩
theorem SolG.few {s : Sy} {lu lv : List (List Int)} {o : Nat} (h : SolG s lu lv o) (hs : Sm s) : FewP lu lv:=by
 rcases h with ⟨-,rfl,rfl, -⟩ | ⟨h0,h, -⟩
 ·exact ⟨by simp,by simp,fun i hi => by simp at hi,fun i hi => by simp at hi⟩
 ·have hI:=h.inR (chkCode_ok.1 (chkG_ok (colC_ok h0).1).1).ok (by have:=hs.sites; show s.sites.toNat ≤ 12; omega)
  have h1:=h.1
  have h2:=h.2.1
  have h3 : s.S.vars ≤ 40:=by have:=hs.vars; show s.vars.toNat ≤ 40; omega
  have h4 : s.S.sites * s.S.fields ≤ 12 * 5:=Nat.mul_le_mul (by have:=hs.sites; show s.sites.toNat ≤ 12; omega) (by have:=hs.fields; show s.fields.toNat ≤ 5; omega)
  exact ⟨by omega,by omega,fun i hi => Nat.le_trans (hI.2.2.1 i hi) (by omega),fun i hi => Nat.le_trans (hI.2.2.2 i hi) (by omega)⟩
def GSolU (s : Sy) (W : World) (e : Ending) (W' : World) : Prop:=∃ ua uc va vc lu lv o,e = .returned (.tuple #[.agg #[.slice ua lu.length uc,.slice va lv.length vc],.int .i64 ((o : Nat) : Int),.int .i64 (colC s)])∧PtsIn W' (.slice ua lu.length uc) (.slice va lv.length vc) lu lv∧SolG s lu lv o∧Below W.heap.size W W'
theorem GSolR.uni {s : Sy} {W : World} {e : Ending} {W' : World} (h : GSolR s W e W') : GSolU s W e W':=by
 rcases h with ⟨h0,rfl,hb⟩ | ⟨h0,ua,uc,va,vc,lu,lv,hd,rfl,hp,hs,hf,hb⟩
 ·exact ⟨none,0,none,0, [], [],0,rfl,⟨⟨_,nilGridC _⟩,_,nilGridC _⟩,.inl ⟨h0,rfl,rfl,rfl⟩,hb⟩
 ·refine ⟨ua,uc,va,vc,lu,lv,offH s.S.vars hd,by rw [hs.1,hs.2.1,h0], ?_,.inr ⟨h0,hs,hd,hf,rfl⟩,hb⟩
  rw [hs.1,hs.2.1]; exact hp
set_option maxHeartbeats 6400000 in
set_option maxRecDepth 100000 in
theorem CollapseSolve_walk (s : Sy) (cv : Value) (W : World) (hc : ConsIn W cv s.cons) :
  Calls Tryz.prog 5 #[SysV s cv] W (TruePost W):=by
 obtain ⟨ca,cc,rfl, -⟩:=hc.out
 have HC:=Lib.hid hc
 clear hc
 unfold SysV
 go_enter Tryz.func5,Tryz.ntmps5
 go_wp2_with fail
 refine calls_gen (fun Z => SysB W.heap.size s (.slice ca s.cons.length cc) Z∧Below W.heap.size W Z) ⟨SysB.new HC.out 24,(Below.refl _ _).alloc (Nat.le_refl _) _⟩ ?_
 rintro Z0 h0
 obtain ⟨bs,hbs⟩ : ∃ bs,bs = W.heap.size:=⟨_,rfl⟩
 have H0 : Hid (SysB bs s (.slice ca s.cons.length cc) Z0∧Below W.heap.size W Z0):=by rw [hbs]; exact h0
 rw [← hbs]
 clear h0 hbs HC
 refine (rSml_any s (.slice ca s.cons.length cc) _ H0.out.1.cons).mono ?_
 rintro e W1 ⟨b1,rfl,hb1,r1⟩
 have hb1:=H0.out.2.trans (r1.mono H0.out.2.size)
 have H1:=Lib.hid (And.intro (H0.out.1.below r1) hb1)
 obtain ⟨⟨d0,d1,d2,d3⟩, -⟩:=H1.out.1
 clear hb1 H0 r1
 cases b1
 ·go_wp2_with fail
  refine (awake_any _).mono ?_
  rintro e W2 ⟨rfl,r2⟩
  clear d0 d1 d2 d3
  have H2:=Lib.hid (H1.out.2.trans (r2.mono H1.out.2.size))
  clear r2 hb1
  go_wp2_with fail
  go_ret
  exact ⟨rfl,H2.out⟩
 ·have hsm:=(hb1.1 rfl).sm
  have HSM:=Lib.hid hsm
  clear hsm hb1
  go_wp2_with fail
  clear d0 d1 d2 d3
  refine (gSolve_any s (.slice ca s.cons.length cc) _ H1.out.1.cons HSM.out).mono ?_
  intro e W2 hr2
  obtain ⟨xa,xc,ya,yc,lu,lv,o,rfl,hp2,hs2,r2⟩:=hr2.uni
  clear hr2
  have hal : Below W2.heap.size W2 (W2.alloc (.cells #[.slice xa lu.length xc,.slice ya lv.length yc] 34)):=(Below.refl _ _).alloc (Nat.le_refl _) _
  have hbW : Below W.heap.size W W2:=H1.out.2.trans (r2.mono H1.out.2.size)
  have H2:=Lib.hid (And.intro ((H1.out.1.below r2).below hal) (And.intro (PtsB.new hp2 34) (hbW.alloc hbW.size (.cells #[.slice xa lu.length xc,.slice ya lv.length yc] 34))))
  have HS2:=Lib.hid hs2
  obtain ⟨code,hcode⟩ : ∃ code,code = colC s:=⟨_,rfl⟩
  obtain ⟨ov,hov⟩ : ∃ ov : Int,ov = (o : Int):=⟨_,rfl⟩
  rw [← hcode, ← hov]
  have HCODE:=Lib.hid (And.intro hcode hov)
  obtain ⟨⟨d0,d1,d2,d3⟩, -⟩:=H2.out.1
  clear hal hbW hp2 hs2 r2 hcode hov H1
  go_wp2_with fail
  clear d0 d1 d2 d3
  refine calls_gen (fun Z => SysB bs s (.slice ca s.cons.length cc) Z∧PtsB W2.heap.size (.slice xa lu.length xc) (.slice ya lv.length yc) lu lv Z∧Below W.heap.size W Z) H2.out ?_
  rintro Z3 h3
  obtain ⟨bp,hbp⟩ : ∃ bp,bp = W2.heap.size:=⟨_,rfl⟩
  rw [← hbp] at h3 ⊢
  have H3:=Lib.hid h3
  clear h3 hbp H2
  refine (rSolveC_any s (.slice ca s.cons.length cc) _ H3.out.1.cons HSM.out).mono ?_
  intro e W4 hr4
  obtain ⟨xa4,xc4,ya4,yc4,lu4,lv4,o4,rfl,hp4,hs4,r4⟩:=hr4.uni
  clear hr4
  obtain ⟨rfl,rfl,rfl⟩:=HS2.out.unique hs4
  rw [← HCODE.out.1, ← HCODE.out.2]
  have hal : Below W4.heap.size W4 (W4.alloc (.cells #[.slice xa4 lu.length xc4,.slice ya4 lv.length yc4] 34)):=(Below.refl _ _).alloc (Nat.le_refl _) _
  have hbW : Below W.heap.size W W4:=H3.out.2.2.trans (r4.mono H3.out.2.2.size)
  have H4:=Lib.hid (And.intro ((H3.out.1.below r4).below hal) (And.intro ((H3.out.2.1.below r4).below hal) (And.intro (PtsB.new hp4 34) (hbW.alloc hbW.size (.cells #[.slice xa4 lu.length xc4,.slice ya4 lv.length yc4] 34)))))
  clear hal hbW hp4 hs4 r4 H3
  go_wp2_with fail
  refine calls_gen (fun Z => SysB bs s (.slice ca s.cons.length cc) Z∧PtsB bp (.slice xa lu.length xc) (.slice ya lv.length yc) lu lv Z∧PtsB W4.heap.size (.slice xa4 lu.length xc4) (.slice ya4 lv.length yc4) lu lv Z∧Below W.heap.size W Z) H4.out ?_
  rintro Z5 h5
  obtain ⟨bq,hbq⟩ : ∃ bq,bq = W4.heap.size:=⟨_,rfl⟩
  rw [← hbq] at h5 ⊢
  have H5:=Lib.hid h5
  clear h5 hbq H4
  refine (awake_any _).mono ?_
  rintro e W6 ⟨rfl,r6⟩
  have H6:=Lib.hid (And.intro (H5.out.1.below r6) (And.intro (H5.out.2.1.below r6) (And.intro (H5.out.2.2.1.below r6) (H5.out.2.2.2.trans (r6.mono H5.out.2.2.2.size)))))
  clear r6 H5
  obtain ⟨p0,p1, -⟩:=H6.out.2.1
  have hcc : (code == code) = true:=by simp
  have hoo : (ov == ov) = true:=by simp
  go_wp2_with fail
  clear p0 p1 hcc hoo
  refine (Few_any _ _ lu lv _ H6.out.2.1.pts).mono ?_
  rintro e W7 ⟨b7,rfl,hb7,r7⟩
  obtain rfl : b7 = true:=hb7.2 (HS2.out.few HSM.out)
  clear hb7
  have H7:=Lib.hid (And.intro (H6.out.1.below r7) (And.intro (H6.out.2.1.below r7) (And.intro (H6.out.2.2.1.below r7) (H6.out.2.2.2.trans (r7.mono H6.out.2.2.2.size)))))
  clear r7 H6
  obtain ⟨p0,p1, -⟩:=H7.out.2.1
  obtain ⟨q0,q1, -⟩:=H7.out.2.2.1
  go_wp2_with fail
  clear p0 p1 q0 q1
  refine (rSame_eq _ _ _ _ lu lv _ H7.out.2.1.pts H7.out.2.2.1.pts).mono ?_
  rintro e W8 ⟨rfl,r8⟩
  have H8:=Lib.hid (H7.out.2.2.2.trans (r8.mono H7.out.2.2.2.size))
  clear r8 H7
  go_wp2_with fail
  go_ret
  exact ⟨rfl,H8.out⟩
set_option maxRecDepth 100000 in
theorem CollapseSolve_lifted (os : Os) (started : os.Started) (H : Type) (enc : TypeId × Value→H) :
  ReturnsInHanded {} Tryz.checked os 5 .any (Rows.collapseSolveSpec.pre6 enc Tryz.prog Tryz.f5 Rows.collapseSolveRow.domain false) (Rows.collapseSolveSpec.post enc Tryz.prog Tryz.f5 false true false false):=by
 refine returnsInHanded_of_change (C:=Tryz.checked) own started (by kernel_rfl) Tryz.func5
  (ChangeSpec.witness6 (enc:=enc) (C:=Tryz.checked) false ⟨#[], #[.agg #[.int .i64 0,.int .i64 0,.int .i64 0,.slice none 0 0]], []⟩ 8 (by kernel_rfl) (by kernel_rfl) (by kernel_rfl) (by kernel_rfl)) ?_
 intro W base args ds gs before hval0 hW hcnd _
 have hval : ∀ (j : Nat) t v,Tryz.f5.params[j]? = some t→args[j]? = some v→Value.okWide Tryz.prog W .any base t v:=hval0
 have hW':=hW
 obtain ⟨p,q,hA0,hV,rfl,hfz,hnd⟩:=hW
 have hA : DataW.TrodAll enc Tryz.prog W 0 (fun _ => true) true Tryz.f5.params.toList args.toList ds p:=hA0
 rw [Tryz.params5] at hA hval
 obtain ⟨v0,vs0,d0,ds0,p0,q0,hargs,rfl,rfl,h0,r0⟩:=trodAll_cons hA
 obtain ⟨rfl,rfl,rfl⟩:=trodAll_nil r0
 obtain rfl : args = #[v0]:=by cases args; simp_all
 obtain ⟨rfl,rfl⟩:=trodVars_none hV
 obtain ⟨c0,rfl,sz0⟩:=okWide_struct Tryz.underlying24 (hval 0 24 v0 rfl rfl)
 have k0:=h0
 obtain ⟨sy0,cv0,eq0,hC0⟩:=sys_of_trod sz0 h0
 obtain rfl : c0 = #[.int .i64 sy0.vars,.int .i64 sy0.sites,.int .i64 sy0.fields,cv0]:=by simpa [SysV] using eq0
 have lt0 : ∀ x ∈ p0,x.block < W.heap.size:=by obtain ⟨m,hm⟩:=k0; exact DataW.trod_lt m _ _ _ hm
 clear hA0 hval0
 refine (CollapseSolve_walk sy0 cv0 W hC0).mono fun e W' ⟨he,bel⟩ => ?_
 subst he
 exact ⟨_,rfl,_,_,_, [],_, [],hW',trodAll_mk1 (shut_bool Tryz.underlying4 _),(trodAll_cons_mk (Below.trod laidOut (by kernel_rfl) (of_decide_eq_true (by kernel_rfl)) k0 bel lt0) trodAll_mk0),rfl,bel.frame _,fun h => by cases h⟩
theorem CollapseSolve_holds : Rows.CollapseSolveSaid :=
 OpenClaim.holds_of_wide 5 Tryz.f5 rfl rfl rfl rfl rfl rfl rfl ⟨rfl,rfl,rfl,rfl,rfl⟩ rfl rfl rfl rfl rfl (by kernel_rfl) Tryz.func5 (by kernel_rfl)
  (of_decide_eq_true (by kernel_rfl)) (by unfold Func.isWrapper; first | (rw [if_pos (by decide +kernel)]; kernel_rfl) | (rw [if_neg (by decide +kernel)]; exact ⟨rfl,rfl⟩))
  (fun os started H enc _ => CollapseSolve_lifted os started H enc)
end Go.Proofs.YtgblfjccccdidaaGreat
end
