/- Texts of the claim, merged. -/
import Derived.Test.YtgblfjccccdidaaGreatRows
import Derived.Shelf.SlSortCmp.Whole1
import Derived.Shelf.SlicesE.DeleteFunc
import Derived.Deep.RegionLaw
import Derived.Shelf.SlSortCmp.NoneTotal
import Derived.Shelf.SlSortCmp.WholeK
import Derived.Shelf.SlSorted.Search
import Derived.Shelf.SlicesE.Clone
import Derived.Test.YtgblfjccccdidaaGreatProg
import Derived.Sort.Grow
import Derived.Laws.StructEq
import Derived.Lib.SliceRun
import Derived.Shelf.SlicesE.Kit
import Derived.Laws.ResultCell
import Derived.RangeFuncNested
import Derived.RangeFuncWrites
import Derived.RangeFuncBound
import Derived.RangeFuncCalls
import Derived.RangeFuncLeaves
import Derived.Shelf.Abstract
import Derived.Shelf.RegionOpen
import Derived.OwnWalkIn
import Derived.TacticsInMore
import Derived.LoopNIn
import Derived.LoopIn
import Derived.Deep.LoopGhost
import Derived.RegionIn
import Derived.StillTail
import Derived.Maps.OwnIn
import Derived.Sort.CutIn
import Derived.Maps.AppendAt
import Derived.Laws.EntriesVeiled
import Derived.Test.YtgblfjccccdidaaGreatVZb
section
namespace Go.Proofs.YtgblfjccccdidaaGreat.Prt
open Go.RowKit Go.Dfl
theorem sInt : SliceOf Tryz.prog 32 3 (.int .i64 0) 1 8:=⟨Tryz.underlying32,info_parts (P:=Tryz.prog) (e:=3) (by kernel_rfl)⟩
def chkFrom (l : List Int) : Nat→Nat→Int
 | 0,_ => 0
 | n+1,i => if nth l i < 0 ∨ nth l i > i then 4 else if nth l (nth l i).toNat ≠ nth l i then 1 else chkFrom l n (i+1)
def chk (l : List Int) : Int:=if l.length > 8192 then 3 else chkFrom l l.length 0
set_option maxHeartbeats 400000 in
theorem Check_any (v : Value) (l : List Int) (w : World) (h : Ints w v l) :
  Calls Tryz.prog 30 #[v] w fun e w' => e = .returned (.int .i64 (chk l))∧Qt w w':=by
 obtain ⟨a,cap,rfl,hm,hidx,hcell,_⟩:=h.out1 sInt
 clear h
 by_cases hbig : 8192 < l.length
 ·go_enter Tryz.func30,Tryz.ntmps30
  go_wp2
  go_ret
  exact ⟨ret_int (by simp [chk,hbig]),Qt.refl _⟩
 ·have hd : decide (8192 < l.length) = false:=by simpa using hbig
  go_enter Tryz.func30,Tryz.ntmps30
  go_wp2
  go_loop [3,4,10] (fun _ _ i => ∃ k : Nat,k ≤ l.length∧i = .int .i64 k∧chk l = chkFrom l (l.length - k) k) (fun _ _ i => l.length - (intOf i).toNat)
  case atStart => exact ⟨0,by omega,rfl,by simp [chk]; omega⟩
  case round =>
   obtain ⟨k,hk,rfl,hch⟩:=hrel
   by_cases hlt : k < l.length
   ·have hck:=hcell k hlt
    obtain ⟨d,hd⟩ : ∃ d,l.length - k = d + 1:=⟨l.length - k - 1,by omega⟩
    have hd' : l.length - (k+1) = d:=by omega
    rw [hd,chkFrom] at hch
    rw [← hd'] at hch
    have Hch:=Lib.hid hch; clear hch hd hd'
    by_cases h1 : nth l k < 0
    ·go_wp2
     go_ret
     exact ⟨ret_int (by rw [Hch.out,if_pos (by omega)]),Qt.refl _⟩
    ·by_cases h2 : k < nth l k
     ·go_wp2
      go_ret
      exact ⟨ret_int (by rw [Hch.out,if_pos (by omega)]),Qt.refl _⟩
     ·have hck2:=hcell (nth l k).toNat (by omega)
      have h3 : 0 ≤ nth l k:=by omega
      have h4 : nth l k < l.length:=by omega
      by_cases h5 : nth l (nth l k).toNat = nth l k
      ·have h6 : (nth l (nth l k).toNat != nth l k) = false:=by simpa using h5
       have H5:=Lib.hid h5
       clear h5
       go_wp2
       go_round
       case rel => exact ⟨k + 1,by omega,by go_num,by rw [Hch.out,if_neg (by omega),if_neg (by simpa using H5.out)]⟩
       case measure => simp [intOf]; omega
      ·have h6 : (nth l (nth l k).toNat != nth l k) = true:=by simpa using h5
       go_wp2
       go_ret
       exact ⟨ret_int (by rw [Hch.out,if_neg (by omega),if_pos h5]),Qt.refl _⟩
   ·go_wp2
    go_ret
    exact ⟨ret_int (by simp [show l.length - k = 0 by omega,chkFrom]),Qt.refl _⟩
set_option maxHeartbeats 400000 in
theorem member_any0 (v : Value) (l : List Int) (x : Int) (w : World) (h : Ints w v l) :
  Calls Tryz.prog 60 #[v,.int .i64 x] w fun e w' => e = .returned (.bool (decide (0 ≤ x∧x < l.length)))∧Qt w w':=by
 obtain ⟨a,cap,rfl,hm,hidx,hcell,_⟩:=h.out1 sInt
 clear h hidx hcell
 by_cases h1 : 0 ≤ x
 ·go_enter Tryz.func60,Tryz.ntmps60
  go_wp2
  go_ret
  exact ⟨ret_bool (by simp [h1]),Qt.refl _⟩
 ·have h1' : decide (0 ≤ x) = false:=by simpa using h1
  go_enter Tryz.func60,Tryz.ntmps60
  go_wp2
  go_ret
  exact ⟨ret_bool (by simp),Qt.refl _⟩
def memB (n : Nat) (x : Int) : Bool:=decide (0 ≤ x∧x < n)
theorem memB_iff {n : Nat} {x : Int} : memB n x = true ↔ 0 ≤ x∧x < n:=by simp [memB]
theorem member_any (v : Value) (l : List Int) (x : Int) (w : World) (h : Ints w v l) :
  Calls Tryz.prog 60 #[v,.int .i64 x] w fun e w' => e = .returned (.bool (memB l.length x))∧Qt w w':=member_any0 v l x w h
def upto (n : Nat) : List Int:=(List.range n).map (Int.ofNat ·)
set_option maxHeartbeats 400000 in
theorem New_out (n : Int) (w : World) (h : n < 0 ∨ 8192 < n) :
  Calls Tryz.prog 59 #[.int .i64 n] w fun e w' => e = .returned (.tuple #[.slice none 0 0,.int .i64 4])∧w = w':=by
 by_cases h1 : n < 0
 ·go_enter Tryz.func59,Tryz.ntmps59
  go_wp2
  go_ret2
  exact ⟨rfl,rfl⟩
 ·have h2 : 8192 < n:=by omega
  go_enter Tryz.func59,Tryz.ntmps59
  go_wp2
  go_ret2
  exact ⟨rfl,rfl⟩
def NewPost (n : Nat) (w : World) (e : Ending) (w' : World) : Prop:=∃ v,e = .returned (.tuple #[v,.int .i64 0])∧OwnI w' w.heap.size 3 v (upto n)∧Below w.heap.size w w'
theorem upto_len (n : Nat) : (upto n).length = n:=by simp [upto]
theorem upto_nth (n i : Nat) (h : i < n) : nth (upto n) i = i:=by simp [upto,nth,h]
theorem upto_step (n k : Nat) (h : k < n) : (upto k ++ List.replicate (n - k) 0).set k (k : Int) = upto (k + 1) ++ List.replicate (n - (k + 1)) 0:=by
 apply nth_ext
 ·simp [upto_len]; omega
 ·intro i hi
  simp [upto_len] at hi
  rw [nth_set,nth_append,nth_append]
  simp only [upto_len,List.length_append,List.length_replicate]
  by_cases h1 : k = i
  ·subst h1
   rw [if_pos (by omega),if_pos (by omega),upto_nth _ _ (by omega)]
  ·rw [if_neg (by omega)]
   by_cases h2 : i < k
   ·rw [if_pos h2,if_pos (by omega),upto_nth _ _ h2,upto_nth _ _ (by omega)]
   ·rw [if_neg h2,if_neg (by omega)]
    simp [nth,List.getElem?_replicate]
    rw [if_pos (by omega),if_pos (by omega)]
set_option maxHeartbeats 400000 in
theorem New_in (n : Nat) (w : World) (h : n ≤ 8192) :
  Calls Tryz.prog 59 #[.int .i64 n] w (NewPost n w):=by
 go_enter Tryz.func59,Tryz.ntmps59
 go_wp2_with (at_make; refine wp_make (0 : Int) sInt rfl _ rfl _ _ rfl .i64 .i64 _ _ n rfl rfl rfl rfl ?c1 ?c2 ?_)
 case c1 => omega
 case c2 => unfold maxLen; omega
 intro s cap w1 hown hb
 go_wp2
 go_loopw [5,16] (fun _ i wr => ∃ k : Nat,k ≤ n∧i = .int .i64 k∧Below w.heap.size w wr∧OwnI wr w.heap.size 3 (.slice s n cap) (upto k ++ List.replicate (n - k) 0)) (fun _ i _ => n - (intOf i).toNat)
 case atStart => exact ⟨0,by omega,rfl,hb,by simpa [upto] using hown⟩
 case round =>
  obtain ⟨k,hk,rfl,hbw,ho⟩:=hrel
  by_cases hlt : k < n
  ·have hl : (upto k ++ List.replicate (n - k) 0).length = n:=by simp [upto_len]; omega
   have hs:=upto_step n k hlt
   have hset:=ho.set k k
   have hfz:=ho.frozen (by omega) (ofs s + k)
   have hblk:=ho.blkge (by omega)
   obtain ⟨a,c2,he,hm,hidx,hcell,_⟩:=ho.lst.out1 sInt
   simp at he
   obtain ⟨rfl,he,rfl⟩:=he
   rw [hl] at hidx hcell
   have hck:=hcell k hlt
   have hb2 : Below w.heap.size w (wr.setCell ⟨blk s,ofs s + k,none⟩ (.int .i64 k)):=hbw.setCell hblk.1 _
   rw [hs] at hset
   have Hset:=Lib.hid hset
   clear hset hs hl he hm hcell ho
   go_wp2
   go_roundw
   case rel => exact ⟨k + 1,by omega,by go_num,hb2,Hset.out⟩
   case measure => simp [intOf]; omega
  ·obtain rfl : k = n:=by omega
   go_wp2
   go_ret2
   exact ⟨_,rfl,by simpa using ho,hbw⟩
end Go.Proofs.YtgblfjccccdidaaGreat.Prt
end
section
namespace Go.Proofs.YtgblfjccccdidaaGreat.Prt
open Go.RowKit Go.Dfl
theorem chkFrom_ok {l : List Int} : ∀ (d k : Nat),chkFrom l d k = 0→∀ i,k ≤ i→i < k + d→0 ≤ nth l i∧nth l i ≤ i∧nth l (nth l i).toNat = nth l i
 | 0,k,_,i,h1,h2 => by omega
 | d+1,k,h,i,h1,h2 => by
   rw [chkFrom] at h
   split at h
   ·simp at h
   ·split at h
    ·simp at h
    ·rename_i g1 g2
     by_cases e : i = k
     ·subst e; exact ⟨by omega,by omega,by simpa using g2⟩
     ·exact chkFrom_ok d (k+1) h i (by omega) (by omega)
theorem chk_ok {l : List Int} (h : chk l = 0) : l.length ≤ 8192∧∀ i,i < l.length→0 ≤ nth l i∧nth l i ≤ i∧nth l (nth l i).toNat = nth l i:=by
 unfold chk at h
 split at h
 ·simp at h
 ·exact ⟨by omega,fun i hi => chkFrom_ok _ 0 h i (by omega) (by omega)⟩
theorem chkFrom_mk {l : List Int} : ∀ (d k : Nat),(∀ i,k ≤ i→i < k + d→0 ≤ nth l i∧nth l i ≤ i∧nth l (nth l i).toNat = nth l i)→chkFrom l d k = 0
 | 0,k,_ => rfl
 | d+1,k,h => by
   have:=h k (by omega) (by omega)
   rw [chkFrom,if_neg (by omega),if_neg (by simpa using this.2.2)]
   exact chkFrom_mk d (k+1) fun i h1 h2 => h i (by omega) (by omega)
theorem chk_mk {l : List Int} (h : l.length ≤ 8192) (h2 : ∀ i,i < l.length→0 ≤ nth l i∧nth l i ≤ i∧nth l (nth l i).toNat = nth l i) : chk l = 0:=by
 rw [chk,if_neg (by omega)]
 exact chkFrom_mk _ _ fun i _ h => h2 i (by omega)
end Go.Proofs.YtgblfjccccdidaaGreat.Prt
end
section
namespace Go.Proofs.YtgblfjccccdidaaGreat.Prt
open Go.RowKit Go.Dfl
def joinL (l : List Int) (a b : Int) : List Int:=l.map fun z => if z = b then a else z
theorem joinL_len (l : List Int) (a b : Int) : (joinL l a b).length = l.length:=by simp [joinL]
theorem joinL_nth (l : List Int) (a b : Int) (i : Nat) (h : i < l.length) : nth (joinL l a b) i = if nth l i = b then a else nth l i:=by
 simp [joinL,nth,h]
def joinOf (l : List Int) (x y : Int) : List Int:=joinL l (mn (nth l x.toNat) (nth l y.toNat)) (mx (nth l x.toNat) (nth l y.toNat))
end Go.Proofs.YtgblfjccccdidaaGreat.Prt
end
section
namespace Go.Proofs.YtgblfjccccdidaaGreat.Prt
open Go.RowKit Go.Dfl
def par (L : List Int) (i : Nat) : Nat:=(nth L i).toNat
def Forest (L : List Int) : Prop:=∀ i,i < L.length→0 ≤ nth L i∧nth L i ≤ i
structure Rooted (L P : List Int) : Prop where
 len : P.length = L.length
 up : ∀ i,i < L.length→nth P (par L i) = nth P i
 fix : ∀ i,i < L.length→nth L i = i→nth P i = i
 rng : ∀ i,i < L.length→0 ≤ nth P i∧nth P i ≤ i
 root : ∀ i,i < L.length→nth L (nth P i).toNat = nth P i
theorem Forest.halve {L : List Int} (h : Forest L) (x : Nat) (hx : x < L.length) : Forest (L.set x (nth L (par L x))):=by
 intro i hi
 simp at hi
 rw [nth_set]
 by_cases e : x = i∧x < L.length
 ·rw [if_pos e]
  obtain ⟨rfl,_⟩:=e
  have h1:=h x hx
  have h2:=h (par L x) (by unfold par; omega)
  unfold par at *
  omega
 ·rw [if_neg e]; exact h i hi
theorem Rooted.halve {L P : List Int} (hF : Forest L) (h : Rooted L P) (x : Nat) (hx : x < L.length) : Rooted (L.set x (nth L (par L x))) P:=by
 have h1:=hF x hx
 have hp : par L x < L.length:=by unfold par; omega
 have h2:=hF (par L x) hp
 have e1:=h.up x hx
 have e2:=h.up (par L x) hp
 refine ⟨by simpa using h.len,fun i hi => ?_,fun i hi hf => ?_,fun i hi => h.rng i (by simpa using hi),fun i hi => ?_⟩
 ·simp at hi
  have : par (L.set x (nth L (par L x))) i = if x = i then par L (par L x) else par L i:=by
   unfold par; rw [nth_set]; split <;> split <;> first | rfl | omega
  rw [this]
  split
  ·rename_i e; subst e; rw [e2,e1]
  ·exact h.up i hi
 ·simp at hi
  rw [nth_set] at hf
  split at hf
  ·rename_i e
   obtain ⟨rfl,_⟩:=e
   apply h.fix x hx
   unfold par at *; omega
  ·exact h.fix i hi hf
 ·simp at hi
  have hr:=h.root i hi
  have hg:=h.rng i hi
  rw [nth_set]
  split
  ·rename_i e
   obtain ⟨e,_⟩:=e
   have : par L x = x:=by unfold par; rw [e,hr]
   rw [this,e]; exact hr
  ·exact hr
def RootPost (x : Nat) (n : Nat) (P : List Int) (base : Nat) (v : Value) (w : World) (e : Ending) (w' : World) : Prop :=
 ∃ L',e = .returned (.int .i64 (nth P x))∧OwnI w' base 3 v L'∧L'.length = n∧Forest L'∧Rooted L' P∧w.grownBy w' v.ownBlock
set_option maxHeartbeats 800000 in
theorem root_any (x n : Nat) (P L : List Int) (base : Nat) (v : Value) (bp : Nat) (w : World) (ho : OwnI w base 3 v L) (hn : L.length = n) (hx : x < n) (hF : Forest L) (hR : Rooted L P)
  (hbox : w.cell? ⟨bp,0,none⟩ = some v) (hne : v.ownBlock ≠ some bp) (hn2 : n ≤ 8192) :
  Calls Tryz.prog 61 #[.int .i64 x,.pointer (some ⟨bp,0,none⟩)] w (RootPost x n P base v w):=by
 obtain ⟨s,cap,rfl, -⟩:=ho.lst.out1 sInt
 rw [hn] at ho hbox hne ⊢
 have HF:=Lib.hid hF
 have HR:=Lib.hid hR
 have Hn:=Lib.hid hn
 clear hF hR hn
 go_enter Tryz.func61,Tryz.ntmps61
 go_wp2_with fail
 go_loopw [0] (fun t wr => ∃ (y : Nat) (L' : List Int),y < n∧t = .int .i64 y∧Hid (L'.length = n∧nth P y = nth P x∧Forest L'∧Rooted L' P∧wr.cell? ⟨bp,0,none⟩ = some (.slice s n cap)∧w.grownBy wr (Value.slice s n cap).ownBlock∧OwnI wr base 3 (.slice s n cap) L')) (fun t _ => (intOf t).toNat)
 case atStart => exact ⟨x,L,hx,rfl,Hn.out,rfl,HF.out,HR.out,hbox,World.grownBy.refl _ _,ho⟩
 case round =>
  clear hbox HF HR Hn ho hx
  obtain ⟨y,L',hy,rfl,hh⟩:=hrel
  obtain ⟨hl,hP,hF,hR,hbox,hgr,ho⟩:=hh.out
  have hf1:=hF y (by omega)
  have hf2:=hF (nth L' y).toNat (by omega)
  have hfz:=ho.frozen (by omega) (ofs s + y)
  obtain ⟨a2,c2,he,hm2,hidx,hcell,_⟩:=ho.lst.out1 sInt
  simp at he
  obtain ⟨rfl,he,rfl⟩:=he
  rw [hl] at hidx hcell
  have hcy:=hcell y (by omega)
  have hy1 : 0 ≤ nth L' y:=hf1.1
  have hy2 : nth L' y < n:=by omega
  have hcp:=hcell (nth L' y).toNat (by omega)
  by_cases hstop : nth L' y = y
  ·have e0 : nth P y = y:=hR.fix y (by omega) hstop
   have e1 : ((y : Int) != (y : Int)) = false:=by simp
   rw [hstop] at hcy
   have H1:=Lib.hid e0
   have H2:=Lib.hid (And.intro hl (And.intro hP (And.intro hF (And.intro hR (And.intro hgr ho)))))
   clear e0 hl hP hF hR hgr ho hcell hh hcp hstop he hm2 hf1 hf2
   go_wp2_with fail
   go_ret
   obtain ⟨hl,hP,hF,hR,hgr,ho⟩:=H2.out
   exact ⟨L',ret_int (by rw [← hP,H1.out]),ho,hl,hF,hR,hgr⟩
  ·have hne1 : (nth L' y != (y : Int)) = true:=by simpa using hstop
   have hset:=ho.set y (nth L' (par L' y))
   have hlt:=hf2
   have hcp0 : 0 ≤ nth L' (nth L' y).toNat:=hf2.1
   have hcn : nth L' (nth L' y).toNat < n:=by omega
   have hcd : nth L' (nth L' y).toNat < y:=by omega
   have hbl:=ho.blkge (by omega)
   have hnb : bp ≠ blk s:=by
    intro e; apply hne
    have:=ho.lst
    rcases s with _ | s
    ·have:=ho.2; simp at this; omega
    ·simp [Value.ownBlock,e,blk]
   have hbs : (Value.slice s n cap).ownBlock = some (blk s):=by
    rcases s with _ | s
    ·have:=ho.2; simp at this; omega
    ·simp [Value.ownBlock,blk]
   have hboxs : ∀ u,(wr.setCell ⟨blk s,ofs s + y,none⟩ u).cell? ⟨bp,0,none⟩ = some (.slice s n cap):=fun u => by
    rw [World.cell?_setCell_other _ _ _ _ (by simp)]; exact hbox
   have hgr2 : ∀ u,w.grownBy (wr.setCell ⟨blk s,ofs s + y,none⟩ u) (some (blk s)):=fun u => by
    rw [hbs] at hgr
    exact ⟨hgr.os,hgr.tape,hgr.output,by simpa [World.setCell] using hgr.size,fun k hk hk2 => by
     rw [Below.heap_setCell _ _ _ _ (by simpa using fun e => hk2 (by rw [e]))]; exact hgr.block k hk hk2⟩
   have H2:=Lib.hid (And.intro hP (And.intro (hF.halve y (by omega)) (And.intro (hR.halve hF y (by omega)) (And.intro hgr2 (And.intro hset (And.intro (show nth P (nth L' (nth L' y).toNat).toNat = nth P y by
    have q1:=hR.up y (by omega)
    have q2:=hR.up (par L' y) (by unfold par; omega)
    unfold par at q1 q2; rw [q2,q1]) (And.intro hl hbs)))))))
   have hcs : (wr.setCell ⟨blk s,ofs s + y,none⟩ (.int .i64 (nth L' (nth L' y).toNat))).cell? ⟨blk s,ofs s + y,none⟩ = some (.int .i64 (nth L' (nth L' y).toNat)):=World.cell?_setCell_same _ _ _ hcy
   have hbx:=hboxs (.int .i64 (nth L' (nth L' y).toNat))
   clear hl hP hF hR hgr hgr2 hset ho hcell hh hstop he hm2 hf1 hf2 hbs hboxs hlt
   go_wp2_with fail
   go_region
   go_wp2_with fail
   go_roundw
   case rel =>
    obtain ⟨hP,hF,hR,hgr2,hset,hq,hl,hbs⟩:=H2.out
    exact ⟨(nth L' (nth L' y).toNat).toNat,L'.set y (nth L' (par L' y)),by omega,by go_num,by simpa using hl,by rw [hq,hP],hF,hR,hbx,by rw [hbs]; exact grownBy_drew (hgr2 _),hset⟩
   case measure => simp [intOf]; omega
end Go.Proofs.YtgblfjccccdidaaGreat.Prt
end
section
namespace Go.Proofs.YtgblfjccccdidaaGreat.Prt
open Go.RowKit Go.Dfl
theorem sEdge : SliceOf Tryz.prog 51 60 (.agg #[.int .i64 0,.int .i64 0]) 2 16:=⟨Tryz.underlying51,info_parts (P:=Tryz.prog) (e:=60) (by kernel_rfl)⟩
def okB (n : Nat) (d : Int × Int) : Bool:=memB n d.1 && memB n d.2
def ofOk (n : Int) (pairs : List (Int × Int)) : Bool:=decide (0 ≤ n∧n ≤ 8192) && pairs.all (okB n.toNat)
def ofStep (P : List Int) (d : Int × Int) : List Int:=joinOf P d.1 d.2
def ofL (n : Nat) (pairs : List (Int × Int)) : List Int:=pairs.foldl ofStep (upto n)
def OfPost (n : Int) (pairs : List (Int × Int)) (w : World) (e : Ending) (w' : World) : Prop :=
 (ofOk n pairs = false∧e = .returned (.tuple #[.slice none 0 0,.int .i64 4])∧Below w.heap.size w w') ∨
 (ofOk n pairs = true∧∃ v,e = .returned (.tuple #[v,.int .i64 0])∧OwnI w' w.heap.size 3 v (ofL n.toNat pairs)∧Below w.heap.size w w')
structure OfInv (n : Nat) (v : Value) (bp : Nat) (L : List Int) (w wr : World) : Prop where
 own : OwnI wr w.heap.size 3 v L
 len : L.length = n
 box : wr.heap[bp]? = some (.cells #[v] 32 (0,0))
 bpge : w.heap.size ≤ bp
 ne : v.ownBlock ≠ some bp
 below : Below w.heap.size w wr
theorem OfInv.boxc {n : Nat} {v : Value} {bp : Nat} {L : List Int} {w wr : World} (h : OfInv n v bp L w wr) : wr.cell? ⟨bp,0,none⟩ = some v:=by
 simp [World.cell?,h.box]
theorem OfInv.alloc {n : Nat} {v : Value} {bp : Nat} {L : List Int} {w wr : World} (h : OfInv n v bp L w wr) (o : Obj) : OfInv n v bp L w (wr.alloc o) :=
 ⟨h.own.alloc o,h.len,by rw [Below.heap_alloc _ _ _ (Array.getElem?_eq_some_iff.1 h.box).1]; exact h.box,h.bpge,h.ne,h.below.alloc h.below.size o⟩
theorem OfInv.qt {n : Nat} {v : Value} {bp : Nat} {L : List Int} {w wr wr' : World} (h : OfInv n v bp L w wr) (hq : Qt wr wr') : OfInv n v bp L w wr':=by
 obtain ⟨k,rfl⟩:=hq
 exact ⟨h.own.qt (Qt.drewN _ _),h.len,h.box,h.bpge,h.ne,below_drewN h.below k⟩
theorem OfInv.grown {n : Nat} {v : Value} {bp : Nat} {L L' : List Int} {w W W' : World} (h : OfInv n v bp L w W) (hg : W.grownBy W' v.ownBlock) (ho : OwnI W' w.heap.size 3 v L') (hl : L'.length = n) : OfInv n v bp L' w W' :=
 ⟨ho,hl,by rw [hg.block _ (Array.getElem?_eq_some_iff.1 h.box).1 (fun e => h.ne e.symm)]; exact h.box,h.bpge,h.ne,h.below.grown hg h.below.size fun k hk => (h.own.lt k hk).1⟩
def RootCls (n : Nat) (v : Value) (bp : Nat) (P : List Int) (w : World) (db : Nat) (x y : Nat) (W : World) : Prop :=
 ∃ L,OfInv n v bp L w W∧Forest L∧Rooted L P∧W.cell? ⟨db,0,none⟩ = some (.int .i64 x)∧W.cell? ⟨db,1,none⟩ = some (.int .i64 y)∧db ≠ bp∧v.ownBlock ≠ some db∧db < W.heap.size
theorem root_cls (z n : Nat) (v : Value) (bp : Nat) (P : List Int) (w : World) (db : Nat) (x y : Nat) (W : World) (hz : z < n) (hn : n ≤ 8192) (h : RootCls n v bp P w db x y W) :
  Calls Tryz.prog 61 #[.int .i64 z,.pointer (some ⟨bp,0,none⟩)] W fun e W' => e = .returned (.int .i64 (nth P z))∧RootCls n v bp P w db x y W':=by
 obtain ⟨L,hI,hF,hR,c1,c2,h1,h2,h3⟩:=h
 refine (root_any z n P L w.heap.size v bp W hI.own hI.len hz hF hR hI.boxc hI.ne hn).mono ?_
 rintro e W' ⟨L',rfl,ho,hl,hF',hR',hg⟩
 exact ⟨rfl,L',hI.grown hg ho hl,hF',hR',hg.cell c1 (fun e => h2 e.symm),hg.cell c2 (fun e => h2 e.symm),h1,h2,Nat.lt_of_lt_of_le h3 hg.size⟩
theorem mnmx {L P : List Int} (h : Rooted L P) (x y : Nat) (hx : x < L.length) (hy : y < L.length) :
  0 ≤ mx (nth P x) (nth P y)∧mx (nth P x) (nth P y) < L.length∧0 ≤ mn (nth P x) (nth P y)∧mn (nth P x) (nth P y) ≤ mx (nth P x) (nth P y) ∧
  nth L (mx (nth P x) (nth P y)).toNat = mx (nth P x) (nth P y)∧nth L (mn (nth P x) (nth P y)).toNat = mn (nth P x) (nth P y):=by
 have h1:=h.rng x hx
 have h2:=h.rng y hy
 have h3:=h.root x hx
 have h4:=h.root y hy
 have h5:=mn_le (nth P x) (nth P y)
 have h6:=mx_ge (nth P x) (nth P y)
 refine ⟨by omega,by omega,by omega,by omega, ?_, ?_⟩
 ·rcases h6.2.2 with e | e <;> rw [e] <;> assumption
 ·rcases h5.2.2 with e | e <;> rw [e] <;> assumption
theorem Rooted.union {L P : List Int} (hF : Forest L) (h : Rooted L P) (A B : Int) (hB0 : 0 ≤ B) (hB : B < L.length) (hA0 : 0 ≤ A) (hAB : A ≤ B) (rB : nth L B.toNat = B) (rA : nth L A.toNat = A) :
  Forest (L.set B.toNat A)∧Rooted (L.set B.toNat A) (joinL P A B):=by
 have pA : nth P A.toNat = A:=by have:=h.fix A.toNat (by omega) (by rw [rA]; omega); rw [this]; omega
 have pB : nth P B.toNat = B:=by have:=h.fix B.toNat (by omega) (by rw [rB]; omega); rw [this]; omega
 have hl:=h.len
 refine ⟨fun i hi => ?_,by simp [joinL_len,hl],fun i hi => ?_,fun i hi hf => ?_,fun i hi => ?_,fun i hi => ?_⟩ <;> simp only [List.length_set] at hi
 ·rw [nth_set]; split
  ·omega
  ·exact hF i hi
 ·have hFi:=hF i hi
  by_cases e : B.toNat = i
  ·have e1 : par (L.set B.toNat A) i = A.toNat:=by unfold par; rw [nth_set,if_pos ⟨e,by omega⟩]
   rw [e1,joinL_nth _ _ _ _ (by omega),joinL_nth _ _ _ _ (by omega),pA, ← e,pB,if_pos rfl]
   split <;> rfl
  ·have e1 : par (L.set B.toNat A) i = par L i:=by unfold par; rw [nth_set,if_neg (by omega)]
   rw [e1,joinL_nth _ _ _ _ (by unfold par; omega),joinL_nth _ _ _ _ (by omega),h.up i hi]
 ·rw [nth_set] at hf
  rw [joinL_nth _ _ _ _ (by omega)]
  split at hf
  ·rename_i e
   rw [← e.1,pB,if_pos rfl]; omega
  ·rename_i e
   have:=h.fix i hi hf
   rw [this,if_neg (by omega)]
 ·have:=h.rng i hi
  rw [joinL_nth _ _ _ _ (by omega)]; split <;> omega
 ·have r1:=h.rng i hi
  have r2:=h.root i hi
  rw [joinL_nth _ _ _ _ (by omega)]
  split
  ·rename_i e
   rw [nth_set]; split
   ·rfl
   ·exact rA
  ·rename_i e
   rw [nth_set,if_neg (by omega)]; exact r2
theorem ofL_snoc (n : Nat) (pairs : List (Int × Int)) (k : Nat) (h : k < pairs.length) (x y : Nat) (hx : (nth pairs k).1 = x) (hy : (nth pairs k).2 = y) :
  ofL n (pairs.take (k+1)) = joinL (ofL n (pairs.take k)) (mn (nth (ofL n (pairs.take k)) x) (nth (ofL n (pairs.take k)) y)) (mx (nth (ofL n (pairs.take k)) x) (nth (ofL n (pairs.take k)) y)):=by
 rw [take_snoc _ _ h]
 simp [ofL,List.foldl_append,ofStep,joinOf,hx,hy]
theorem own_set_inv {n : Nat} {s : Option Addr} {cap2 : Nat} {bp : Nat} {L : List Int} {w W : World} (hI : OfInv n (.slice s n cap2) bp L w W) (i : Nat) (hi : i < n) (z : Int) :
  OfInv n (.slice s n cap2) bp (L.set i z) w (W.setCell ⟨blk s,ofs s + i,none⟩ (.int .i64 z)):=by
 have hbl:=hI.own.blkge (by have:=hI.len; omega)
 have hob : (Value.slice s n cap2).ownBlock = some (blk s):=by
  rcases s with _ | s
  ·have:=hI.own.2; have:=hI.len; simp at *; omega
  ·simp [Value.ownBlock,blk]
 refine ⟨hI.own.set i z,by simpa using hI.len, ?_,hI.bpge,hI.ne,hI.below.setCell hbl.1 _⟩
 rw [Below.heap_setCell _ _ _ _ (by intro e; apply hI.ne; rw [hob,e])]
 exact hI.box
theorem ofOk_snoc {n : Nat} {pairs : List (Int × Int)} {k : Nat} (hk : k < pairs.length) (h : (pairs.take k).all (okB n) = true) : (pairs.take (k+1)).all (okB n) = okB n (nth pairs k):=by
 rw [take_snoc _ _ hk,List.all_append,h]; simp
theorem ofOk_bad {n : Nat} {pairs : List (Int × Int)} {k : Nat} (hk : k < pairs.length) (h : okB n (nth pairs k) = false) : pairs.all (okB n) = false:=by
 rw [Bool.eq_false_iff]; intro hh
 have:=List.all_eq_true.1 hh _ (nth_mem _ _ hk)
 rw [h] at this; simp at this
theorem forest_upto (n : Nat) : Forest (upto n):=fun i hi => by rw [upto_len] at hi; rw [upto_nth _ _ hi]; omega
theorem rooted_upto (n : Nat) : Rooted (upto n) (upto n):=by
 refine ⟨rfl,fun i hi => ?_,fun i hi h => h,fun i hi => forest_upto n i hi,fun i hi => ?_⟩ <;> rw [upto_len] at hi
 ·unfold par; rw [upto_nth _ _ hi]; simp [upto_nth _ _ hi]
 ·rw [upto_nth _ _ hi]; simp [upto_nth _ _ hi]
set_option maxHeartbeats 1600000 in
set_option maxRecDepth 100000 in
theorem Of_any (n : Int) (v : Value) (pairs : List (Int × Int)) (w : World) (h : Pairs w v pairs) :
  Calls Tryz.prog 39 #[.int .i64 n,v] w (OfPost n pairs w):=by
 obtain ⟨a,cap,rfl,hm,hidx,hcell,hblk⟩:=h.out2 sEdge
 clear h
 by_cases hn : n < 0 ∨ 8192 < n
 ·have hbad : ofOk n pairs = false:=by simp [ofOk]; omega
  go_enter Tryz.func39,Tryz.ntmps39
  go_wp2_with fail
  refine (New_out n _ hn).mono ?_; rintro e w' ⟨rfl,rfl⟩
  go_wp2_with fail
  go_ret2
  exact .inl ⟨hbad,rfl,(Below.refl _ _).alloc (Nat.le_refl _) _⟩
 ·obtain ⟨n,rfl⟩:=Int.eq_ofNat_of_zero_le (by omega : 0 ≤ n)
  have hn2 : n ≤ 8192:=by omega
  clear hn
  go_enter Tryz.func39,Tryz.ntmps39
  go_wp2_with fail
  refine (New_in n _ hn2).mono ?_; rintro e w1 ⟨v,rfl,ho,hb⟩
  obtain ⟨s,cap2,rfl⟩:=ho.shape (upto_len n)
  go_wp2_with fail
  obtain ⟨bp,hbp⟩ : ∃ bp,bp = w1.heap.size:=⟨_,rfl⟩
  have hsz:=hb.size
  have hI : OfInv n (.slice s n cap2) bp (upto n) w (w1.alloc (.cells #[.slice s n cap2] 32)):=by
   refine ⟨ho.alloc _,upto_len n, ?_,by omega, ?_,hb.alloc hb.size _⟩
   ·subst hbp; exact heap_alloc_new _ _
   ·intro e; have:=(ho.lt _ e).2; omega
  rw [← hbp]
  have HI:=Lib.hid hI
  have M : ∀ L W x,Ints W (.slice s n cap2) L→L.length = n→Calls Tryz.prog 60 #[.slice s n cap2,.int .i64 x] W fun e w' => e = .returned (.bool (memB n x))∧Qt W w' :=
   fun L W x h hl => by have:=member_any _ _ x W h; rwa [hl] at this
  have HM:=Lib.hid M
  clear hI ho hb hbp hsz M
  go_loopw [26] (fun i wr => ∃ k : Nat,k ≤ pairs.length∧i = .int .i64 k∧Hid (OfInv n (.slice s n cap2) bp (upto n) w wr∧(pairs.take k).all (okB n) = true)) (fun i _ => pairs.length - (intOf i).toNat)
  case atStart => exact ⟨0,by omega,rfl,HI.out,rfl⟩
  case round =>
   clear HI
   obtain ⟨k,hk,rfl,hh⟩:=hrel
   by_cases hlt : k < pairs.length
   ·obtain ⟨hI,hall⟩:=hh.out
    have hboxc:=hI.boxc
    have hbpl:=(Array.getElem?_eq_some_iff.1 hI.box).1
    have c1 : wr.cell? ⟨blk a,ofs a + k * 2,none⟩ = some (.int .i64 (nth pairs k).1):=by
     rw [hI.below.cell (p:=⟨blk a,ofs a + k * 2,none⟩) (hblk k hlt)]; simpa using (hcell k hlt).1
    have c2 : wr.cell? ⟨blk a,ofs a + k * 2 + 1,none⟩ = some (.int .i64 (nth pairs k).2):=by
     rw [hI.below.cell (p:=⟨blk a,ofs a + k * 2 + 1,none⟩) (hblk k hlt)]; simpa using (hcell k hlt).2
    have hsz:=hI.below.size
    have h1:=hblk k hlt
    have hIn : Ints (wr.alloc (.cells #[.int .i64 (nth pairs k).1,.int .i64 (nth pairs k).2] 60)) (.slice s n cap2) (upto n):=(hI.own.alloc _).lst
    have hul : (upto n).length = n:=upto_len n
    have HH:=Lib.hid (And.intro hI (And.intro hall (And.intro hIn hul)))
    clear hh hI hall hcell hIn hul
    cases e1 : memB n (nth pairs k).1
    ·go_wp2_with fail
     refine (HM.out _ _ _ HH.out.2.2.1 HH.out.2.2.2).mono ?_; rintro e w' ⟨rfl,nw,rfl⟩
     go_wp2_with fail
     go_ret2
     refine .inl ⟨?_,rfl, ?_⟩
     ·simp only [ofOk,Int.toNat_natCast,ofOk_bad hlt (show okB n (nth pairs k) = false by simp [okB,e1]),Bool.and_false]
     ·exact below_drewN (HH.out.1.alloc _).below _
    cases e2 : memB n (nth pairs k).2
    ·go_wp2_with fail
     refine (HM.out _ _ _ HH.out.2.2.1 HH.out.2.2.2).mono ?_; rintro e w' ⟨rfl,nw,rfl⟩
     go_wp2_with fail
     refine (HM.out _ _ _ (HH.out.2.2.1.qt (Qt.drewN _ _)) HH.out.2.2.2).mono ?_; rintro e w' ⟨rfl,nw',rfl⟩
     go_wp2_with fail
     go_ret2
     refine .inl ⟨?_,rfl, ?_⟩
     ·simp only [ofOk,Int.toNat_natCast,ofOk_bad hlt (show okB n (nth pairs k) = false by simp [okB,e2]),Bool.and_false]
     ·exact below_drewN (HH.out.1.alloc _).below _
    go_wp2_with fail
    refine (HM.out _ _ _ HH.out.2.2.1 HH.out.2.2.2).mono ?_; rintro e w' ⟨rfl,nw,rfl⟩
    go_wp2_with fail
    refine (HM.out _ _ _ (HH.out.2.2.1.qt (Qt.drewN _ _)) HH.out.2.2.2).mono ?_; rintro e w' ⟨rfl,nw',rfl⟩
    go_wp2_with fail
    go_roundw
    case rel => exact ⟨k + 1,by omega,by go_num,(HH.out.1.alloc _).qt (by first | exact Qt.refl _ | exact Qt.drewN _ _ | exact (Qt.drewN _ _).trans (Qt.drewN _ _) | exact ((Qt.drewN _ _).trans (Qt.drewN _ _)).trans (Qt.drewN _ _) | exact Qt.drew _ | exact (Qt.drewN _ _).trans (Qt.drew _)),by rw [ofOk_snoc hlt HH.out.2.1]; simp [okB,e1,e2]⟩
    case measure => simp [intOf]; omega
   ·obtain ⟨hI,hall⟩:=hh.out
    rw [List.take_of_length_le (by omega)] at hall
    have HI:=Lib.hid hI
    have HA:=Lib.hid hall
    clear hh hI hall
    go_wp2_with fail
    go_loopw [13,14,46] (fun _ _ i wr => ∃ (k : Nat) (L : List Int),k ≤ pairs.length∧i = .int .i64 k∧Hid (OfInv n (.slice s n cap2) bp L w wr∧Forest L∧Rooted L (ofL n (pairs.take k)))) (fun _ _ i _ => pairs.length - (intOf i).toNat)
    case atStart => exact ⟨0,upto n,by omega,rfl,HI.out,forest_upto n,rooted_upto n⟩
    case round =>
     clear HI
     obtain ⟨k,L,hk,rfl,hh⟩:=hrel
     by_cases hlt : k < pairs.length
     ·obtain ⟨hI,hF,hR⟩:=hh.out
      have hboxc:=hI.boxc
      have hbpl:=(Array.getElem?_eq_some_iff.1 hI.box).1
      have c1 : wr.cell? ⟨blk a,ofs a + k * 2,none⟩ = some (.int .i64 (nth pairs k).1):=by
       rw [hI.below.cell (p:=⟨blk a,ofs a + k * 2,none⟩) (hblk k hlt)]; simpa using (hcell k hlt).1
      have c2 : wr.cell? ⟨blk a,ofs a + k * 2 + 1,none⟩ = some (.int .i64 (nth pairs k).2):=by
       rw [hI.below.cell (p:=⟨blk a,ofs a + k * 2 + 1,none⟩) (hblk k hlt)]; simpa using (hcell k hlt).2
      have hsz:=hI.below.size
      have h1:=hblk k hlt
      have hok:=List.all_eq_true.1 HA.out _ (nth_mem _ _ hlt)
      simp only [okB,Bool.and_eq_true,memB_iff] at hok
      obtain ⟨⟨p1,p2⟩,p3,p4⟩:=hok
      obtain ⟨x,hx⟩:=Int.eq_ofNat_of_zero_le p1
      obtain ⟨y,hy⟩:=Int.eq_ofNat_of_zero_le p3
      rw [hx] at c1
      rw [hy] at c2
      have hxn : x < n:=by omega
      have hyn : y < n:=by omega
      have HH:=Lib.hid (And.intro hI (And.intro hF (And.intro hR (And.intro hx hy))))
      clear hh hI hF hR hcell p1 p2 p3 p4 hx hy
      have hC : RootCls n (.slice s n cap2) bp (ofL n (pairs.take k)) w wr.heap.size x y (wr.alloc (.cells #[.int .i64 x,.int .i64 y] 60)).drew:=by
       obtain ⟨hI,hF,hR, -, -⟩:=HH.out
       refine ⟨L,(hI.alloc _).qt (Qt.drew _),hF,hR, ?_, ?_, ?_, ?_, ?_⟩
       ·simp [go_sem]
       ·simp [go_sem]
       ·omega
       ·intro e; have:=(hI.own.lt _ e).2; omega
       ·simp
      generalize hP : ofL n (pairs.take k) = P at hC
      have HP:=Lib.hid hP
      clear hP
      have q1 : ∀ q : Wd (RootCls n (.slice s n cap2) bp P w wr.heap.size x y),q.val.cell? ⟨wr.heap.size,0,none⟩ = some (.int .i64 x):=fun q => by
       obtain ⟨W,L,h⟩:=q; exact h.2.2.2.1
      have q2 : ∀ q : Wd (RootCls n (.slice s n cap2) bp P w wr.heap.size x y),q.val.cell? ⟨wr.heap.size,1,none⟩ = some (.int .i64 y):=fun q => by
       obtain ⟨W,L,h⟩:=q; exact h.2.2.2.2.1
      have HC:=Lib.hid hC
      haveI hne : Nonempty (Wd (RootCls n (.slice s n cap2) bp P w wr.heap.size x y)):=⟨⟨_,hC⟩⟩
      clear hC
      go_wp2_with fail
      refine wp_region_class (RootCls n (.slice s n cap2) bp P w wr.heap.size x y) (by kernel_rfl) (by kernel_rfl) HC.out ?_
      repeat (go_big_quiet_step ((go_at_call 61; exact class_of (root_cls _ n _ bp P w wr.heap.size x y _ (by assumption) hn2 (Wd.ok _)))))
      refine wpQuiet_nil ?_
      rintro _ ⟨⟨W,hW⟩,rfl⟩
      clear q1 q2
      obtain ⟨L',hI',hF',hR', -⟩:=hW
      have hl':=hI'.len
      obtain ⟨m1,m2,m3,m4,m5,m6⟩:=mnmx hR' x y (by omega) (by omega)
      have hmn:=run_mn Tryz.prog
      have hmx:=run_mx Tryz.prog
      have hbox:=hI'.boxc
      have hfz:=hI'.own.frozen (by omega) (ofs s + (mx (nth P x) (nth P y)).toNat)
      obtain ⟨a2,c2,he,hm2,hidx2,hcell2,_⟩:=hI'.own.lst.out1 sInt
      simp at he
      obtain ⟨rfl,he,rfl⟩:=he
      rw [hl'] at hidx2 hcell2 m2
      have hcm:=hcell2 (mx (nth P x) (nth P y)).toNat (by omega)
      have hU:=Rooted.union hF' hR' _ _ m1 (by rw [hl']; exact m2) m3 m4 m5 m6
      have hS:=own_set_inv hI' (mx (nth P x) (nth P y)).toNat (by omega) (mn (nth P x) (nth P y))
      have hE : ofL n (pairs.take (k+1)) = joinL P (mn (nth P x) (nth P y)) (mx (nth P x) (nth P y)):=by
       have:=ofL_snoc n pairs k hlt x y HH.out.2.2.2.1 HH.out.2.2.2.2
       rw [HP.out] at this; exact this
      have HU:=Lib.hid (And.intro hS (And.intro hU.1 (And.intro hU.2 hE)))
      clear hI' hF' hR' hl' hU hS hE hcell2 he hm2 hne m5 m6 m3 m4 HC
      go_wp2_with fail
      go_roundw
      case rel =>
       obtain ⟨hS,hU1,hU2,hE⟩:=HU.out
       exact ⟨k + 1,_,by omega,by go_num,hS,hU1,by rw [hE]; exact hU2⟩
      case measure => simp [intOf]; omega
     ·obtain ⟨hI,hF,hR⟩:=hh.out
      rw [List.take_of_length_le (by omega)] at hR
      have hbox:=hI.boxc
      have HI:=Lib.hid (And.intro hI (And.intro hF hR))
      clear hh hI hF hR
      go_wp2_with fail
      go_loopw [15,69] (fun _ i wr => ∃ (k : Nat) (L : List Int),k ≤ n∧i = .int .i64 k∧Hid (OfInv n (.slice s n cap2) bp L w wr∧Forest L∧Rooted L (ofL n pairs)∧∀ j,j < k→nth L j = nth (ofL n pairs) j)) (fun _ i _ => n - (intOf i).toNat)
      case atStart => exact ⟨0,L,by omega,rfl,HI.out.1,HI.out.2.1,HI.out.2.2,by omega⟩
      case round =>
       clear HI hbox
       obtain ⟨k,L,hk,rfl,hh⟩:=hrel
       obtain ⟨hI,hF,hR,hJ⟩:=hh.out
       clear hh
       have hl:=hI.len
       have hbox:=hI.boxc
       by_cases hlt : k < n
       ·have hf1:=hF k (by omega)
        have hfz:=hI.own.frozen (by omega) (ofs s + k)
        obtain ⟨a2,c2,he,hm2,hidx2,hcell2,_⟩:=hI.own.lst.out1 sInt
        simp at he
        obtain ⟨rfl,he,rfl⟩:=he
        rw [hl] at hidx2 hcell2
        have hck:=hcell2 k hlt
        have hcp:=hcell2 (nth L k).toNat (by omega)
        have k1 : 0 ≤ nth L k:=hf1.1
        have k2 : nth L k < n:=by omega
        have hS:=own_set_inv hI k hlt (nth L (nth L k).toNat)
        have hN : ∀ j,j < k + 1→nth (L.set k (nth L (nth L k).toNat)) j = nth (ofL n pairs) j:=by
         intro j hj
         rw [nth_set]
         by_cases e : k = j
         ·subst e
          rw [if_pos ⟨rfl,by omega⟩]
          by_cases e2 : nth L k = k
          ·rw [e2]; simp only [Int.toNat_natCast]; rw [e2]; exact (hR.fix k (by omega) e2).symm
          ·rw [hJ _ (by omega)]; exact hR.up k (by omega)
         ·rw [if_neg (by omega)]; exact hJ j (by omega)
        have HS:=Lib.hid (And.intro hS (And.intro (hF.halve k (by omega)) (And.intro (hR.halve hF k (by omega)) hN)))
        clear hI hF hR hJ hl hf1 hcell2 he hm2 hS hN
        go_wp2_with fail
        go_region
        go_wp2_with fail
        go_roundw
        case rel =>
         obtain ⟨hS,h1,h2,h3⟩:=HS.out
         exact ⟨k + 1,_,by omega,by go_num,hS.qt (by first | exact Qt.refl _ | exact Qt.drewN _ _ | exact (Qt.drewN _ _).trans (Qt.drewN _ _) | exact ((Qt.drewN _ _).trans (Qt.drewN _ _)).trans (Qt.drewN _ _) | exact Qt.drew _ | exact (Qt.drewN _ _).trans (Qt.drew _)),h1,h2,h3⟩
        case measure => simp [intOf]; omega
       ·have hLP : L = ofL n pairs:=nth_ext hR.len.symm fun i hi => hJ i (by omega)
        have HS:=Lib.hid (And.intro hI hLP)
        clear hI hF hR hJ hl hLP
        go_wp2_with fail
        go_ret2
        obtain ⟨hI,hLP⟩:=HS.out
        refine .inr ⟨?_,_,rfl,by have:=hI.own; rw [hLP] at this; exact this,hI.below⟩
        simp only [ofOk,Int.toNat_natCast,HA.out,Bool.and_true,decide_eq_true_eq]
        omega
end Go.Proofs.YtgblfjccccdidaaGreat.Prt
end
section
namespace Go.Clp
open Go.Dfl (nth nth_set nth_mem mem_nth nth_eq nth_ext nth_append nth_out take_snoc)
open Go.And (R Sy)
def tailP (c : List Int) : List (Int × Int):=(c.drop 1).map fun v => (key c,v)
def prs (cyc : List (List Int)) : List (Int × Int):=cyc.flatMap tailP
theorem tailP_len (c : List Int) : (tailP c).length = c.length - 1:=by simp [tailP]
theorem tailP_snoc {c : List Int} {j : Nat} (h : j + 1 < c.length) : (tailP c).take (j + 1) = (tailP c).take j ++ [(key c,nth c (j + 1))]:=by
 have hl : j < (tailP c).length:=by rw [tailP_len]; omega
 rw [take_snoc _ _ hl]
 congr 2
 unfold tailP
 rw [nth_eq _ _ (by simpa using (by omega : j < c.length - 1)),List.getElem_map,List.getElem_drop,nth_eq _ _ h]
 congr 2; omega
theorem prs_snoc {cyc : List (List Int)} {k : Nat} (h : k < cyc.length) : prs (cyc.take (k + 1)) = prs (cyc.take k) ++ tailP (nth cyc k):=by
 unfold prs; rw [take_snoc _ _ h,List.flatMap_append]; simp
theorem prs_len {cyc : List (List Int)} {m : Nat} (h : ∀ c ∈ cyc,c.length ≤ m) : (prs cyc).length ≤ cyc.length * m:=by
 induction cyc with
 | nil => simp [prs]
 | cons c l ih =>
   have h1:=ih fun d hd => h d (List.mem_cons_of_mem _ hd)
   have h2:=h c (by simp)
   have h3:=tailP_len c
   unfold prs at *
   rw [List.flatMap_cons,List.length_append,List.length_cons,Nat.succ_mul]
   omega
theorem mem_prs {E : Nat→Nat→Prop} {l : List Int} {n : Nat} (hl : Lds E n l) {p : Int × Int} (hp : p ∈ prs (cycL l n)) : ∃ v : Nat,v < n∧p = (nth l v,(v : Int))∧nth l v ≠ (v : Int):=by
 obtain ⟨c,hc,hp⟩:=List.mem_flatMap.1 hp
 obtain ⟨⟨h,hh,rfl⟩,h2⟩:=mem_cycL.1 hc
 obtain ⟨x,hx,rfl⟩:=List.mem_map.1 hp
 obtain ⟨i,hi,hix⟩:=List.getElem_of_mem hx
 rw [List.getElem_drop] at hix
 have hi' : 1 + i < (memL l n h).length:=by simp at hi; omega
 obtain ⟨v,hv,hvn,hvh⟩:=mem_memL.1 (List.mem_of_mem_drop hx)
 obtain ⟨-,h4⟩:=memL_head hl hh
 refine ⟨v,hvn, ?_, ?_⟩
 ·show (key (memL l n h),x) = _
  rw [show key (memL l n h) = (h : Int) from h4,hv,hvh]
 ·have:=List.pairwise_iff_getElem.1 (memL_sorted l n h) 0 (1 + i) (by omega) hi' (by omega)
  rw [nth_eq _ _ (by omega)] at h4
  rw [hix,h4,hv] at this
  omega
theorem prs_cov {E : Nat→Nat→Prop} {l : List Int} {n : Nat} (hl : Lds E n l) {v : Nat} (hv : v < n) (hne : nth l v ≠ (v : Int)) : ∃ p ∈ prs (cycL l n),p.2 = (v : Int):=by
 have hle:=hl.le hv
 have hs:=hl.self hv
 obtain ⟨h,hh⟩ : ∃ h : Nat,nth l v = (h : Int):=⟨(nth l v).toNat,by omega⟩
 have hhd : h ∈ headsTo l n:=mem_headsTo.2 ⟨by omega,by rw [hh] at hs; simpa using hs⟩
 obtain ⟨hp,h4⟩:=memL_head hl hhd
 have hm : (v : Int) ∈ memL l n h:=mem_memL.2 ⟨v,rfl,hv,hh⟩
 obtain ⟨i,hi,hiv⟩:=mem_nth hm
 have hi0 : i ≠ 0:=fun e => by rw [e,h4] at hiv; omega
 refine ⟨(key (memL l n h),(v : Int)), ?_,rfl⟩
 refine List.mem_flatMap.2 ⟨memL l n h,mem_cycL.2 ⟨⟨h,hhd,rfl⟩,by omega⟩, ?_⟩
 refine List.mem_map.2 ⟨(v : Int), ?_,rfl⟩
 rw [← hiv,nth_eq _ _ hi]
 refine List.mem_iff_getElem.2 ⟨i - 1,by simp; omega, ?_⟩
 rw [List.getElem_drop]; congr 1; omega
end Go.Clp
namespace Go.Proofs.YtgblfjccccdidaaGreat.Prt
open Go.Dfl (nth nth_set nth_mem mem_nth nth_eq nth_ext nth_append nth_out take_snoc mn mx)
open Go.Clp
theorem ofL_lenC (n : Nat) (pairs : List (Int × Int)) : (ofL n pairs).length = n:=by
 unfold ofL
 have : ∀ (q : List (Int × Int)) (P : List Int),P.length = n→(q.foldl ofStep P).length = n:=by
  intro q
  induction q with
  | nil => exact fun P h => h
  | cons d q ih => exact fun P h => ih _ (by unfold ofStep joinOf; rw [joinL_len]; exact h)
 exact this pairs _ (upto_len n)
theorem ofL_heads {E : Nat→Nat→Prop} {l : List Int} {n : Nat} (hl : Lds E n l) {ps : List (Int × Int)} (hps : ∀ p ∈ ps, ∃ v : Nat,v < n∧p = (nth l v,(v : Int))∧nth l v ≠ (v : Int)) (hcov : ∀ v,v < n→nth l v ≠ (v : Int)→∃ p ∈ ps,p.2 = (v : Int)) : ofL n ps = l:=by
 have key : ∀ k,k ≤ ps.length→∀ v,v < n→nth (ofL n (ps.take k)) v = if ∃ p ∈ ps.take k,p.2 = (v : Int) then nth l v else (v : Int):=by
  intro k
  induction k with
  | zero =>
    intro _ v hv
    rw [if_neg (by simp)]
    exact upto_nth n v hv
  | succ k ih =>
    intro hk v hv
    have hk' : k < ps.length:=by omega
    have ih:=ih (by omega)
    obtain ⟨y,hyn,hye,hyne⟩:=hps _ (nth_mem ps k hk')
    have hle:=hl.le hyn
    obtain ⟨x,hx⟩ : ∃ x : Nat,nth l y = (x : Int):=⟨(nth l y).toNat,by omega⟩
    have hxh : nth l x = (x : Int):=by have:=hl.self hyn; rw [hx] at this; simpa using this
    rw [hx] at hye hyne hle
    have hxn : x < n:=by omega
    have e1 : mn (x : Int) (y : Int) = (x : Int):=by unfold mn; rw [if_neg (by omega)]
    have e2 : mx (x : Int) (y : Int) = (y : Int):=by unfold mx; rw [if_pos (by omega)]
    have hxy : ∀ w,w < n→nth l w ≠ (y : Int):=fun w hw e => by
     have:=hl.self hw
     rw [e] at this
     simp only [Int.toNat_natCast] at this
     rw [hx] at this
     exact hyne this
    have hvy' : v ≠ y→(v : Int) ≠ (y : Int):=fun h => by omega
    have hxP : nth (ofL n (ps.take k)) x = (x : Int):=by
     rw [ih x hxn]; split
     ·exact hxh
     ·rfl
    rw [ofL_snoc n ps k hk' x y (by rw [hye]) (by rw [hye]),hxP,joinL_nth _ _ _ _ (by rw [ofL_lenC]; exact hv)]
    have hsn : ps.take (k + 1) = ps.take k ++ [((x : Int),(y : Int))]:=by rw [take_snoc _ _ hk',hye]
    have hex : (∃ p ∈ ps.take (k + 1),p.2 = (v : Int)) ↔ (∃ p ∈ ps.take k,p.2 = (v : Int)) ∨ v = y:=by
     rw [hsn]
     constructor
     ·rintro ⟨p,hp,h2⟩
      rcases List.mem_append.1 hp with hp | hp
      ·exact .inl ⟨p,hp,h2⟩
      ·rw [List.mem_singleton] at hp; subst hp; dsimp only at h2; exact .inr (by omega)
     ·rintro (⟨p,hp,h2⟩ | rfl)
      ·exact ⟨p,List.mem_append_left _ hp,h2⟩
      ·exact ⟨((x : Int),(v : Int)),List.mem_append_right _ (by simp),rfl⟩
    have ihy:=ih y hyn
    have ihv:=ih v hv
    by_cases hy : ∃ p ∈ ps.take k,p.2 = (y : Int)
    ·rw [if_pos hy,hx] at ihy
     rw [ihy,show mn (x : Int) (x : Int) = (x : Int) by unfold mn; simp,show mx (x : Int) (x : Int) = (x : Int) by unfold mx; simp]
     have hc : (∃ p ∈ ps.take (k + 1),p.2 = (v : Int)) ↔ (∃ p ∈ ps.take k,p.2 = (v : Int)):=by
      rw [hex]; constructor
      ·rintro (h | rfl)
       ·exact h
       ·exact hy
      ·exact .inl
     rw [ihv]
     by_cases h9 : ∃ p ∈ ps.take k,p.2 = (v : Int)
     ·rw [if_pos h9,if_pos (hc.2 h9)]
      split
      ·rename_i e; exact e.symm
      ·rfl
     ·rw [if_neg h9,if_neg (fun e => h9 (hc.1 e))]
      split
      ·rename_i e; exact e.symm
      ·rfl
    ·rw [if_neg hy] at ihy
     rw [ihy,e1,e2,ihv]
     by_cases hvy : v = y
     ·subst hvy
      rw [if_neg hy,if_pos rfl,if_pos (hex.2 (.inr rfl)),hx]
     ·by_cases hv2 : ∃ p ∈ ps.take k,p.2 = (v : Int)
      ·rw [if_pos hv2,if_pos (hex.2 (.inl hv2)),if_neg]
       exact hxy v hv
      ·rw [if_neg hv2,if_neg (hvy' hvy),if_neg (fun e => by rcases hex.1 e with h | h; exact hv2 h; exact hvy h)]
 refine nth_ext (by rw [ofL_lenC]; exact hl.1.symm) fun v hv => ?_
 rw [ofL_lenC] at hv
 have:=key ps.length (Nat.le_refl _) v hv
 rw [List.take_length] at this
 rw [this]
 split
 ·rfl
 ·rename_i h9
  false_or_by_contra
  rename_i h8
  exact h9 (hcov v hv fun e => h8 e.symm)
end Go.Proofs.YtgblfjccccdidaaGreat.Prt
namespace Go.Clp
open Go.Dfl (nth nth_set nth_mem mem_nth nth_eq nth_ext nth_append nth_out take_snoc)
open Go.And (R Sy)
def redC (l : List Int) (c : R) : R:={ c with a:=if c.k = 1 then c.a else nth l c.a.toNat,b:=nth l c.b.toNat }
def redB (c : R) : Bool:=!(decide (c.k = 2) && decide (c.a = c.b))
def redL (l : List Int) (cons : List R) : List R:=(cons.map (redC l)).filter redB
def red (s : Sy) (l : List Int) : Sy:={ s with cons:=redL l s.cons }
theorem redL_len (l : List Int) (cons : List R) : (redL l cons).length ≤ cons.length:=by
 unfold redL; exact Nat.le_trans (List.length_filter_le _ _) (by simp)
theorem redL_yes {l : List Int} {cons : List R} {k : Nat} (hk : k < cons.length) (h : redB (redC l (nth cons k)) = true) : redL l (cons.take (k + 1)) = redL l (cons.take k) ++ [redC l (nth cons k)]:=by
 unfold redL; rw [take_snoc _ _ hk,List.map_append,List.filter_append]; simp [h]
theorem redL_no {l : List Int} {cons : List R} {k : Nat} (hk : k < cons.length) (h : redB (redC l (nth cons k)) = false) : redL l (cons.take (k + 1)) = redL l (cons.take k):=by
 unfold redL; rw [take_snoc _ _ hk,List.map_append,List.filter_append]; simp [h]
theorem mem_redL {l : List Int} {cons : List R} {d : R} : d ∈ redL l cons ↔ (∃ c ∈ cons,d = redC l c)∧redB d = true:=by
 unfold redL
 rw [List.mem_filter,List.mem_map]
 constructor
 ·rintro ⟨⟨c,h1,h2⟩,h3⟩; exact ⟨⟨c,h1,h2.symm⟩,h3⟩
 ·rintro ⟨⟨c,h1,h2⟩,h3⟩; exact ⟨⟨c,h1,h2.symm⟩,h3⟩
end Go.Clp
end
section
namespace Go.Dfl
open Go.RowKit Go.Sort Go.Proofs
section
variable {α : Type} [Inhabited α] {enc : α→Value} {w : World} {base g cap n : Nat} {e : TypeId} {vs : List Value}
theorem own_holds (h : Go.Dfl.Own (fun x : Value => x) w base e (.slice (some ⟨g,0,none⟩) n cap) vs) (d : Array α) (hd : vs = d.toList.map enc) : Holds enc w g 0 d:=by
 obtain ⟨h1,⟨h2, -⟩ | ⟨g2,cap2,cur,hv,hg,hh,hc,hm,hs,ht⟩⟩:=h
 ·simp at h2
 ·simp only [Value.slice.injEq,Option.some.injEq,Addr.mk.injEq] at hv
  obtain ⟨⟨rfl, -⟩, -,rfl⟩:=hv
  intro j hj
  have hjv : j < vs.length:=by rw [hd]; simpa using hj
  have hx : cur[j]? = some (enc d[j]!):=by
   have h3:=congrArg (fun l => l[j]?) ht
   rw [List.map_id'] at h3
   simp only [Nat.mul_one] at h3
   rw [List.getElem?_take,if_pos hjv,Array.getElem?_toList] at h3
   rw [h3,hd,List.getElem?_map,List.getElem?_eq_getElem (by simpa using hj),getElem!_pos d j hj]
   simp
  constructor
  ·rw [Nat.zero_add]; simp [World.cell?,hh,hx]
  ·simp [World.frozen?,hh]
theorem sortWorld_heap (enc : α→Value) (w : World) (g m : Nat) (d : Array α) (os : Array Obj) : (sortWorld enc w g 0 m d os).heap = (w.heap.modify g (onCells (putCells enc 0 d))) ++ os:=rfl
theorem putCells_take (enc : α→Value) (d : Array α) (cur : Array Value) (h : d.size ≤ cur.size) : (putCells enc 0 d cur).toList.take d.size = d.toList.map enc:=by
 refine List.ext_getElem? fun t => ?_
 by_cases ht : t < d.size
 ·rw [List.getElem?_take,if_pos ht,Array.getElem?_toList,List.getElem?_map,List.getElem?_eq_getElem (by simpa using ht)]
  unfold putCells
  rw [Array.getElem?_mapIdx,Array.getElem?_eq_getElem (by omega),Option.map_some,Option.map_some,if_pos ⟨by omega,by omega⟩,Nat.sub_zero,getElem!_pos d t ht]
  simp
 ·rw [List.getElem?_take,if_neg ht,List.getElem?_eq_none (by simpa using ht)]
theorem own_sorted (h : Go.Dfl.Own (fun x : Value => x) w base e (.slice (some ⟨g,0,none⟩) n cap) vs) (d : Array α) (hd : d.size = vs.length) (m : Nat) (os : Array Obj) :
  Go.Dfl.Own (fun x : Value => x) (sortWorld enc w g 0 m d os) base e (.slice (some ⟨g,0,none⟩) n cap) (d.toList.map enc)∧w.grownBy (sortWorld enc w g 0 m d os) (some g):=by
 obtain ⟨h1,⟨h2, -⟩ | ⟨g2,cap2,cur,hv,hg,hh,hc,hm,hs,ht⟩⟩:=h
 ·simp at h2
 ·simp only [Value.slice.injEq,Option.some.injEq,Addr.mk.injEq] at hv
  obtain ⟨⟨rfl, -⟩,hn,rfl⟩:=hv
  have hlt:=(Array.getElem?_eq_some_iff.1 hh).1
  have hheap : ∀ k,k < w.heap.size→(sortWorld enc w g 0 m d os).heap[k]? = if k = g then some (.cells (putCells enc 0 d cur) e (0,0)) else w.heap[k]?:=fun k hk => by
   rw [sortWorld_heap,Array.getElem?_append_left (by simpa using hk),Array.getElem?_modify]
   by_cases e2 : g = k
   ·subst e2
    rw [if_pos rfl,if_pos rfl,hh]; rfl
   ·rw [if_neg e2,if_neg (fun e3 => e2 e3.symm)]
  have hps : (putCells enc 0 d cur).size = cur.size:=by unfold putCells; simp
  have hml : (d.toList.map enc).length = d.size:=by simp
  refine ⟨⟨by simp,.inr ⟨g,cap,putCells enc 0 d cur,by rw [hml,hd,hn],hg,by rw [hheap g hlt,if_pos rfl],by rw [hml,hd]; exact hc,hm,by rw [hps,hs], ?_⟩⟩,⟨rfl,rfl,rfl, ?_,fun k hk hne => ?_⟩⟩
  ·rw [hml,Nat.mul_one,putCells_take enc d cur (by rw [hs,hd]; omega)]
   simp
  ·rw [sortWorld_heap]; simp
  ·rw [hheap k hk,if_neg (fun e3 => hne (by rw [e3]))]
theorem own_take {α : Type} {f : α→Value} {l : List α} {w : World} {base g cap n : Nat} {e : TypeId} (h : Go.Dfl.Own f w base e (.slice (some ⟨g,0,none⟩) n cap) l) {k : Nat} (hk : k ≤ l.length) : Go.Dfl.Own f w base e (.slice (some ⟨g,0,none⟩) k cap) (l.take k):=by
 have hlt : (l.take k).length = k:=by simp; omega
 obtain ⟨h1,⟨h2, -⟩ | ⟨g2,cap2,cur,hv,hg,hh,hc,hm,hs,ht⟩⟩:=h
 ·simp at h2
 ·simp only [Value.slice.injEq,Option.some.injEq,Addr.mk.injEq] at hv
  obtain ⟨⟨rfl, -⟩,hn,rfl⟩:=hv
  refine ⟨by simp,.inr ⟨g,cap,cur,by rw [hlt],hg,hh,by rw [hlt]; omega,hm,hs, ?_⟩⟩
  rw [hlt,Nat.mul_one,List.map_take, ← ht,List.take_take]
  congr 1; omega
end
section
variable {β : Type} [Inhabited β] {I : World→Nat→Value→β→Prop} {w w' : World} {base : Nat} {eo : TypeId} {v v' : Value} {vs : List Value} {ll : List β}
theorem OwnN.pick (hK : Kind I) (h : OwnN I w base eo v vs ll) {J : List Nat} (hJ : J.Nodup) (hlt : ∀ i ∈ J,i < ll.length) (ho : Go.Dfl.Own (fun x : Value => x) w' base eo v' (J.map (nth vs))) (hg : w.grownBy w' v.ownBlock) (hv : ∀ k,v'.ownBlock = some k→v.ownBlock = some k) :
  OwnN I w' base eo v' (J.map (nth vs)) (J.map (nth ll)):=by
 have e1 : ∀ i,i < J.length→nth (J.map (nth vs)) i = nth vs (nth J i):=fun i hi => by rw [nth_eq _ _ (by simpa using hi),nth_eq _ _ hi]; simp
 have e2 : ∀ i,i < J.length→nth (J.map (nth ll)) i = nth ll (nth J i):=fun i hi => by rw [nth_eq _ _ (by simpa using hi),nth_eq _ _ hi]; simp
 have e3 : ∀ i,i < J.length→nth J i < ll.length:=fun i hi => hlt _ (nth_mem _ _ hi)
 refine ⟨ho,by simp,fun i hi => ?_,fun i j hi hj hij k hk => ?_,fun i hi k hk => ?_⟩
 ·have hi' : i < J.length:=by simpa using hi
  rw [e1 i hi',e2 i hi']
  refine hK.grown (h.inn _ (e3 i hi')) hg ?_
  cases hb : (nth vs (nth J i)).ownBlock with
  | none => exact .inl rfl
  | some k => exact .inr fun e => h.apart _ (e3 i hi') k hb e.symm
 ·have hi' : i < J.length:=by simpa using hi
  have hj' : j < J.length:=by simpa using hj
  rw [e1 i hi'] at hk
  rw [e1 j hj']
  refine h.sep _ _ (e3 i hi') (e3 j hj') (fun e => hij ?_) k hk
  rw [nth_eq _ _ hi',nth_eq _ _ hj'] at e
  exact (List.getElem_inj hJ).1 e
 ·have hi' : i < J.length:=by simpa using hi
  rw [e1 i hi'] at hk
  exact fun e => h.apart _ (e3 i hi') k hk (hv k e)
theorem map_range_nth {β : Type} [Inhabited β] (l : List β) : (List.range l.length).map (nth l) = l:=nth_ext (by simp) fun i hi => by
 have hi' : i < l.length:=by simpa using hi
 rw [nth_eq _ _ (by simpa using hi)]; simp
theorem filter_range_nth {β : Type} [Inhabited β] (l : List β) (p : β→Bool) : ((List.range l.length).filter fun i => p (nth l i)).map (nth l) = l.filter p:=by
 have h:=congrArg (List.filter p) (map_range_nth l)
 rw [List.filter_map] at h
 exact h
end
end Go.Dfl
end
section
namespace Go.Dfl
open Go.RowKit
end Go.Dfl
namespace Go.Gra
def cmpI (x y : Int) : Int:=if x < y then -1 else if y < x then 1 else 0
end Go.Gra
end
section
namespace Go.Gra
open Go.Dfl (nth nth_mem mem_nth nth_eq nth_ext)
structure G where
 n : Int
 es : List (Int × Int)
def eLt (a b : Int × Int) : Prop:=a.1 < b.1 ∨ (a.1 = b.1∧a.2 < b.2)
instance (a b : Int × Int) : Decidable (eLt a b):=by unfold eLt; infer_instance
theorem eLt_irrefl (a : Int × Int) : ¬ eLt a a:=by unfold eLt; omega
theorem eLt_trans {a b c : Int × Int} (h : eLt a b) (k : eLt b c) : eLt a c:=by unfold eLt at *; omega
theorem eLt_total {a b : Int × Int} (h : ¬ eLt a b) (k : ¬ eLt b a) : a = b:=by
 unfold eLt at *
 exact Prod.ext (by omega) (by omega)
def cmpE (a b : Int × Int) : Int:=if cmpI a.1 b.1 ≠ 0 then cmpI a.1 b.1 else cmpI a.2 b.2
theorem cmpE_neg (a b : Int × Int) : cmpE a b < 0 ↔ eLt a b:=by
 unfold cmpE cmpI eLt
 repeat' split
 all_goals omega
theorem cmpE_nonneg (a b : Int × Int) : 0 ≤ cmpE a b ↔ ¬ eLt a b:=by rw [← cmpE_neg]; omega
def nodeB (n v : Int) : Bool:=decide (0 ≤ v) && decide (v < n)
def inB (n : Int) (e : Int × Int) : Bool:=nodeB n e.1 && nodeB n e.2
theorem nodeB_iff {n v : Int} : nodeB n v = true ↔ 0 ≤ v∧v < n:=by simp [nodeB]
theorem inB_iff {n : Int} {e : Int × Int} : inB n e = true ↔ (0 ≤ e.1∧e.1 < n)∧0 ≤ e.2∧e.2 < n:=by simp [inB,nodeB_iff]
def ordB : Option (Int × Int)→Int × Int→Bool
 | none,_ => true
 | some d,e => decide (eLt d e)
def scanE (n : Int) (p : Option (Int × Int)) : List (Int × Int)→Int
 | [] => 0
 | e :: l => if inB n e = false then 4 else if ordB p e = false then 13 else scanE n (some e) l
def gCode (g : G) : Int:=if g.n < 0 then 4 else if 8192 < g.n ∨ 32768 < g.es.length then 3 else scanE g.n none g.es
theorem gCode_neg {g : G} (h : g.n < 0) : gCode g = 4:=by unfold gCode; rw [if_pos h]
theorem gCode_big {g : G} (h0 : 0 ≤ g.n) (h : 8192 < g.n ∨ 32768 < g.es.length) : gCode g = 3:=by unfold gCode; rw [if_neg (by omega),if_pos h]
theorem gCode_scan {g : G} (h0 : 0 ≤ g.n) (h1 : g.n ≤ 8192) (h2 : g.es.length ≤ 32768) : gCode g = scanE g.n none g.es:=by unfold gCode; rw [if_neg (by omega),if_neg (by omega)]
def prevE (es : List (Int × Int)) (i : Nat) : Option (Int × Int):=if i = 0 then none else some (nth es (i - 1))
theorem prevE_succ (es : List (Int × Int)) (i : Nat) : prevE es (i + 1) = some (nth es i):=by simp [prevE]
theorem drop_nth {α : Type} [Inhabited α] (l : List α) (i : Nat) (h : i < l.length) : l.drop i = nth l i :: l.drop (i + 1):=by
 rw [nth_eq _ _ h]; exact List.drop_eq_getElem_cons h
theorem scanE_bad {n : Int} {es : List (Int × Int)} {i : Nat} (h : i < es.length) (hb : inB n (nth es i) = false) : scanE n (prevE es i) (es.drop i) = 4:=by
 rw [drop_nth _ _ h,scanE,if_pos hb]
theorem scanE_ord {n : Int} {es : List (Int × Int)} {i : Nat} (h : i + 1 < es.length) (hb : inB n (nth es (i + 1)) = true) (ho : ¬ eLt (nth es i) (nth es (i + 1))) : scanE n (prevE es (i + 1)) (es.drop (i + 1)) = 13:=by
 rw [drop_nth _ _ h,prevE_succ,scanE,if_neg (by rw [hb]; simp),if_pos (by simpa [ordB] using ho)]
theorem scanE_ok {n : Int} {es : List (Int × Int)} {i : Nat} (h : i < es.length) (hb : inB n (nth es i) = true) (ho : 0 < i→eLt (nth es (i - 1)) (nth es i)) : scanE n (prevE es i) (es.drop i) = scanE n (prevE es (i + 1)) (es.drop (i + 1)):=by
 rw [drop_nth _ _ h,prevE_succ,scanE,if_neg (by rw [hb]; simp)]
 cases i with
 | zero => simp [prevE,ordB]
 | succ i => rw [prevE_succ,if_neg (by simpa [ordB] using ho (by omega))]
structure VG (g : G) : Prop where
 n0 : 0 ≤ g.n
 n1 : g.n ≤ 8192
 len : g.es.length ≤ 32768
 inn : ∀ e ∈ g.es,(0 ≤ e.1∧e.1 < g.n)∧0 ≤ e.2∧e.2 < g.n
 srt : g.es.Pairwise eLt
theorem scanE_zero {n : Int} : ∀ (l : List (Int × Int)) (p : Option (Int × Int)),scanE n p l = 0 ↔ (∀ e ∈ l,inB n e = true)∧l.Pairwise eLt∧∀ d,p = some d→∀ e ∈ l,eLt d e
 | [],p => by simp [scanE]
 | e :: l,p => by
   rw [scanE]
   by_cases h1 : inB n e = false
   ·rw [if_pos h1]
    simp [h1]
   ·rw [if_neg h1]
    have h1' : inB n e = true:=by simpa using h1
    have ih:=scanE_zero (n:=n) l (some e)
    have key : (scanE n (some e) l = 0) ↔ (∀ e ∈ l,inB n e = true)∧l.Pairwise eLt∧∀ x ∈ l,eLt e x:=by
     rw [ih]; simp
    cases p with
    | none =>
      rw [if_neg (by simp [ordB]),key]
      simp only [List.mem_cons,forall_eq_or_imp,List.pairwise_cons,h1',true_and]
      constructor
      ·rintro ⟨a,b,c⟩; exact ⟨a,⟨c,b⟩,by simp⟩
      ·rintro ⟨a,⟨c,b⟩, -⟩; exact ⟨a,b,c⟩
    | some d =>
      by_cases h2 : eLt d e
      ·rw [if_neg (by simpa [ordB] using h2),key]
       simp only [List.mem_cons,forall_eq_or_imp,List.pairwise_cons,h1',true_and]
       constructor
       ·rintro ⟨a,b,c⟩
        refine ⟨a,⟨c,b⟩,fun d' hd => ?_⟩
        obtain rfl : d = d':=by simpa using hd
        exact ⟨h2,fun x hx => eLt_trans h2 (c x hx)⟩
       ·rintro ⟨a,⟨c,b⟩, -⟩; exact ⟨a,b,c⟩
      ·rw [if_pos (by simpa [ordB] using h2)]
       simp only [List.mem_cons,forall_eq_or_imp]
       constructor
       ·intro h; cases h
       ·rintro ⟨-, -,h⟩; exact absurd (h d rfl).1 h2
theorem gCode_ok {g : G} : gCode g = 0 ↔ VG g:=by
 unfold gCode
 by_cases h1 : g.n < 0
 ·rw [if_pos h1]; constructor
  ·intro h; cases h
  ·intro h; have:=h.n0; omega
 ·rw [if_neg h1]
  by_cases h2 : 8192 < g.n ∨ 32768 < g.es.length
  ·rw [if_pos h2]; constructor
   ·intro h; cases h
   ·intro h; have:=h.n1; have:=h.len; omega
  ·rw [if_neg h2,scanE_zero]
   constructor
   ·rintro ⟨a,b, -⟩; exact ⟨by omega,by omega,by omega,fun e he => inB_iff.1 (a e he),b⟩
   ·intro h; exact ⟨fun e he => inB_iff.2 (h.inn e he),h.srt,by simp⟩
structure SortOf (es l : List (Int × Int)) : Prop where
 srt : l.Pairwise eLt
 mem : ∀ e,e ∈ l ↔ e ∈ es
end Go.Gra
end
section
namespace Go.Proofs.YtgblfjccccdidaaGreat
open Go.Shelf
def sortE_ren : Go.Shelf.Ren:=⟨fun | 6 => 75 | 15 => 82 | 14 => 99 | 28 => 113 | 29 => 114 | 20 => 120 | 21 => 121 | 22 => 122 | 23 => 123 | 24 => 124 | 25 => 125 | 26 => 126 | 27 => 127 | 46 => 139 | 47 => 135 | 48 => 136 | 49 => 140 | 50 => 141 | 57 => 143 | n => n,fun | 22 => 51 | 24 => 60 | 25 => 120 | 3 => 3 | 39 => 111 | 0 => 0 | 53 => 156 | 55 => 110 | 4 => 4 | 46 => 150 | 45 => 149 | 50 => 146 | 5 => 5 | 9 => 9 | 66 => 173 | 70 => 177 | 76 => 181 | 77 => 182 | n => n,fun | n => n⟩
theorem sortE : Go.Proofs.SlLaysF0.n6 Tryz.prog sortE_ren:={
 mixed:=by kernel_rfl
 f6:=⟨Tryz.f75.name,by decide,Tryz.func75.trans (congrArg some (by kernel_rfl))⟩
 f14:=⟨Tryz.f99.name,by decide,Tryz.func99.trans (congrArg some (by kernel_rfl))⟩
 f15:=Tryz.func82.trans (congrArg some (by kernel_rfl))
 f20:=⟨Tryz.f120.name,by decide,Tryz.func120.trans (congrArg some (by kernel_rfl))⟩
 f21:=⟨Tryz.f121.name,by decide,Tryz.func121.trans (congrArg some (by kernel_rfl))⟩
 f22:=⟨Tryz.f122.name,by decide,Tryz.func122.trans (congrArg some (by kernel_rfl))⟩
 f23:=⟨Tryz.f123.name,by decide,Tryz.func123.trans (congrArg some (by kernel_rfl))⟩
 f24:=⟨Tryz.f124.name,by decide,Tryz.func124.trans (congrArg some (by kernel_rfl))⟩
 f25:=⟨Tryz.f125.name,by decide,Tryz.func125.trans (congrArg some (by kernel_rfl))⟩
 f26:=⟨Tryz.f126.name,by decide,Tryz.func126.trans (congrArg some (by kernel_rfl))⟩
 f27:=⟨Tryz.f127.name,by decide,Tryz.func127.trans (congrArg some (by kernel_rfl))⟩
 f28:=Tryz.func113.trans (congrArg some (by kernel_rfl))
 f29:=Tryz.func114.trans (congrArg some (by kernel_rfl))
 f46:=⟨Tryz.f139.name,by decide,Tryz.func139.trans (congrArg some (by kernel_rfl))⟩
 f47:=Tryz.func135.trans (congrArg some (by kernel_rfl))
 f48:=Tryz.func136.trans (congrArg some (by kernel_rfl))
 f49:=⟨Tryz.f140.name,by decide,Tryz.func140.trans (congrArg some (by kernel_rfl))⟩
 f50:=⟨Tryz.f141.name,by decide,Tryz.func141.trans (congrArg some (by kernel_rfl))⟩
 f57:=⟨Tryz.f143.name,by decide,Tryz.func143.trans (congrArg some (by kernel_rfl))⟩
 t0:=Tryz.underlying0
 a0:=Tryz.isAgg0
 z0:=Tryz.sizeOf0
 v0:=Tryz.zeroValue0
 t3:=Tryz.underlying3
 a3:=Tryz.isAgg3
 z3:=Tryz.sizeOf3
 v3:=Tryz.zeroValue3
 t4:=Tryz.underlying4
 a4:=Tryz.isAgg4
 z4:=Tryz.sizeOf4
 v4:=Tryz.zeroValue4
 t5:=Tryz.underlying5
 a5:=Tryz.isAgg5
 z5:=Tryz.sizeOf5
 v5:=Tryz.zeroValue5
 t9:=Tryz.underlying9
 a9:=Tryz.isAgg9
 z9:=Tryz.sizeOf9
 v9:=Tryz.zeroValue9
 t22:=Tryz.underlying51
 a22:=Tryz.isAgg51
 z22:=Tryz.sizeOf51
 v22:=Tryz.zeroValue51
 t25:=Tryz.underlying120
 a25:=Tryz.isAgg120
 z25:=Tryz.sizeOf120
 v25:=Tryz.zeroValue120
 t39:=Tryz.underlying111
 a39:=Tryz.isAgg111
 z39:=Tryz.sizeOf111
 v39:=Tryz.zeroValue111
 t45:=Tryz.underlying149
 a45:=Tryz.isAgg149
 z45:=Tryz.sizeOf149
 v45:=Tryz.zeroValue149
 t46:=Tryz.underlying150
 a46:=Tryz.isAgg150
 z46:=Tryz.sizeOf150
 v46:=Tryz.zeroValue150
 t50:=Tryz.underlying146
 a50:=Tryz.isAgg146
 z50:=Tryz.sizeOf146
 v50:=Tryz.zeroValue146
 t53:=Tryz.underlying156
 a53:=Tryz.isAgg156
 z53:=Tryz.sizeOf156
 v53:=Tryz.zeroValue156
 t55:=Tryz.underlying110
 a55:=Tryz.isAgg110
 z55:=Tryz.sizeOf110
 v55:=Tryz.zeroValue110
 t66:=Tryz.underlying173
 a66:=Tryz.isAgg173
 z66:=Tryz.sizeOf173
 v66:=Tryz.zeroValue173
 t70:=Tryz.underlying177
 a70:=Tryz.isAgg177
 z70:=Tryz.sizeOf177
 v70:=Tryz.zeroValue177
 t76:=Tryz.underlying181
 a76:=Tryz.isAgg181
 z76:=Tryz.sizeOf181
 v76:=Tryz.zeroValue181
 t77:=Tryz.underlying182
 a77:=Tryz.isAgg182
 z77:=Tryz.sizeOf182
 v77:=Tryz.zeroValue182 }
def cloneE_ren : Go.Shelf.Ren:=⟨fun | 41 => 74 | n => n,fun | 22 => 51 | 23 => 60 | 4 => 4 | n => n,fun | n => n⟩
theorem cloneE : Go.Proofs.SlLaysE0.n41 Tryz.prog cloneE_ren:={
 mixed:=by kernel_rfl
 f41:=⟨Tryz.f74.name,by decide,Tryz.func74.trans (congrArg some (by kernel_rfl))⟩
 t4:=Tryz.underlying4
 a4:=Tryz.isAgg4
 z4:=Tryz.sizeOf4
 v4:=Tryz.zeroValue4
 t22:=Tryz.underlying51
 a22:=Tryz.isAgg51
 z22:=Tryz.sizeOf51
 v22:=Tryz.zeroValue51 }
end Go.Proofs.YtgblfjccccdidaaGreat
end
section
namespace Go.Gra
open Go.RowKit
def Grw (W Z : World) : Prop:=∃ q os,Z = Go.Sort.grow (W.drewN q) os
theorem gen_code {P : Program} {c : Code} {Q : Exit→Act→World→Prop} {a : Act} {w : World} (p : World→Prop) (hw : p w) (h : ∀ W,p W→Code.wp P c Q a W) : Code.wp P c Q a w:=h w hw
theorem Grw.refl (W : World) : Grw W W:=⟨0, #[],by simp; rfl⟩
theorem Grw.drewN {W Z : World} (h : Grw W Z) (n : Nat) : Grw W (Z.drewN n):=by
 obtain ⟨q,os,rfl⟩:=h
 exact ⟨q + n,os,by rw [← World.drewN_drewN]; rfl⟩
theorem Grw.drew {W Z : World} (h : Grw W Z) : Grw W Z.drew:=h.drewN 1
theorem Grw.alloc {W Z : World} (h : Grw W Z) (o : Obj) : Grw W (Z.alloc o):=by
 obtain ⟨q,os,rfl⟩:=h
 exact ⟨q,os.push o,by rw [Go.Sort.alloc_eq_grow,Go.Sort.grow_grow,Array.append_singleton]⟩
theorem Grw.below {A B : World} (h : Grw A B) : Below A.heap.size A B:=by
 obtain ⟨q,os,rfl⟩:=h
 exact Go.Proofs.below_grown_sl _ _ _ _ (Nat.le_refl _)
end Go.Gra
namespace Go.Proofs.YtgblfjccccdidaaGreat
open Go.RowKit Go.Dfl Go.Gra
theorem sIntG : SliceOf Tryz.prog 32 3 (.int .i64 0) 1 8:=⟨Tryz.underlying32,info_parts (P:=Tryz.prog) (e:=3) (by kernel_rfl)⟩
theorem cmpI_any (x y : Int) (w : World) : Calls Tryz.prog 52 #[.int .i64 x,.int .i64 y] w fun e w' => e = .returned (.int .i64 (cmpI x y))∧w' = w:=by
 have q1 : (x != x) = false:=by simp
 have q2 : (y != y) = false:=by simp
 by_cases h1 : x < y
 ·go_enter Tryz.func52,Tryz.ntmps52
  go_wp2
  go_ret
  exact ⟨ret_int (by simp [cmpI,h1]),rfl⟩
 ·by_cases h2 : y < x
  ·go_enter Tryz.func52,Tryz.ntmps52
   go_wp2
   go_ret
   exact ⟨ret_int (by simp [cmpI,h1,h2]),rfl⟩
  ·go_enter Tryz.func52,Tryz.ntmps52
   go_wp2
   go_ret
   exact ⟨ret_int (by unfold cmpI; rw [if_neg (by omega),if_neg (by omega)]),rfl⟩
def orI (l : List Int) : Int:=(l.find? fun x => decide (x ≠ 0)).getD 0
theorem orI_first {l : List Int} {k : Nat} (h : k < l.length) (h0 : ∀ i,i < k→nth l i = 0) (h1 : nth l k ≠ 0) : orI l = nth l k:=by
 unfold orI
 have : l.find? (fun x => decide (x ≠ 0)) = some (nth l k):=by
  rw [List.find?_eq_some_iff_getElem]
  refine ⟨by simpa using h1,k,h,(nth_eq _ _ h).symm,fun j hj => ?_⟩
  rw [← nth_eq l j (by omega),h0 j hj]; simp
 rw [this]; rfl
theorem orI_none {l : List Int} (h0 : ∀ i,i < l.length→nth l i = 0) : orI l = 0:=by
 unfold orI
 have : l.find? (fun x => decide (x ≠ 0)) = none:=by
  rw [List.find?_eq_none]
  intro x hx
  obtain ⟨i,hi,rfl⟩:=mem_nth hx
  simp [h0 i hi]
 rw [this]; rfl
set_option maxHeartbeats 800000 in
theorem cmpOr_any (v : Value) (l : List Int) (w : World) (h : Ints w v l) :
  Calls Tryz.prog 100 #[v] w fun e w' => e = .returned (.int .i64 (orI l))∧w' = w:=by
 obtain ⟨a,cap,rfl,hm,hidx,hcell,_⟩:=h.out1 sIntG
 clear h
 go_enter Tryz.func100,Tryz.ntmps100
 go_wp2_with fail
 go_loopw [5,8] (fun _ i wr => ∃ k : Nat,k ≤ l.length∧i = .int .i64 k∧wr = w∧Hid (∀ i,i < k→nth l i = 0)) (fun _ i _ => l.length - (intOf i).toNat)
 case atStart => exact ⟨0,by omega,rfl,rfl,fun i hi => by omega⟩
 case round =>
  obtain ⟨k,hk,rfl,rfl,hch⟩:=hrel
  by_cases hlt : k < l.length
  ·have hck:=hcell k hlt
   by_cases h1 : nth l k = 0
   ·have hd : (nth l k != 0) = false:=by simpa using h1
    have HX:=Lib.hid h1
    clear h1
    go_wp2_with fail
    go_roundw
    case rel => exact ⟨k + 1,by omega,by go_num,by trivial,fun i hi => by
     by_cases e : i = k
     ·subst e; exact HX.out
     ·exact hch.out i (by omega)⟩
    case measure => simp [intOf]; omega
   ·have hd : (nth l k != 0) = true:=by simpa using h1
    have HX:=Lib.hid h1
    clear h1
    go_wp2_with fail
    go_ret
    exact ⟨ret_int (orI_first hlt hch.out HX.out).symm,rfl⟩
  ·obtain rfl : k = l.length:=by omega
   go_wp2_with fail
   go_ret
   exact ⟨ret_int (orI_none hch.out).symm,rfl⟩
end Go.Proofs.YtgblfjccccdidaaGreat
end
section
namespace Go.Proofs.YtgblfjccccdidaaGreat
open Go.RowKit Go.Dfl Go.Gra
theorem sEdge : SliceOf Tryz.prog 51 60 (.agg #[.int .i64 0,.int .i64 0]) 2 16:=⟨Tryz.underlying51,info_parts (P:=Tryz.prog) (e:=60) (by kernel_rfl)⟩
abbrev ev (e : Int × Int) : Value:=.agg #[.int .i64 e.1,.int .i64 e.2]
def GV (g : G) (cv : Value) : Value:=.agg #[.int .i64 g.n,cv]
theorem node_any (n v : Int) (w : World) : Calls Tryz.prog 73 #[.int .i64 n,.int .i64 v] w fun e w' => e = .returned (.bool (nodeB n v))∧w' = w:=by
 by_cases h1 : 0 ≤ v
 ·by_cases h2 : v < n
  ·go_enter Tryz.func73,Tryz.ntmps73
   go_wp2_with fail
   go_ret
   exact ⟨ret_bool (by simp [nodeB,h1,h2]),rfl⟩
  ·go_enter Tryz.func73,Tryz.ntmps73
   go_wp2_with fail
   go_ret
   exact ⟨ret_bool (by simp [nodeB,h1,h2]),rfl⟩
 ·go_enter Tryz.func73,Tryz.ntmps73
  go_wp2_with fail
  go_ret
  exact ⟨ret_bool (by simp [nodeB]; omega),rfl⟩
theorem orI_cmp (a b : Int × Int) : orI [cmpI a.1 b.1,cmpI a.2 b.2] = cmpE a b:=by
 unfold cmpE
 by_cases h : cmpI a.1 b.1 = 0
 ·rw [if_neg (by simpa using h)]
  by_cases h2 : cmpI a.2 b.2 = 0
  ·rw [orI_none (fun i hi => by simp at hi; obtain rfl | rfl : i = 0 ∨ i = 1:=by omega
                                ·exact h
                                ·exact h2),h2]
  ·exact orI_first (k:=1) (by simp) (fun i hi => by obtain rfl : i = 0:=by omega
                                                    exact h) h2
 ·rw [if_pos h]
  exact orI_first (k:=0) (by simp) (fun i hi => by omega) h
set_option maxHeartbeats 1600000 in
theorem compare_any (a b : Int × Int) (W : World) : Calls Tryz.prog 76 #[ev a,ev b] W fun e W' => e = .returned (.int .i64 (cmpE a b))∧Grw W W':=by
 obtain ⟨a1,a2⟩:=a
 obtain ⟨b1,b2⟩:=b
 have hg:=((Grw.refl W).alloc (.cells #[.int .i64 a1,.int .i64 a2] 60)).alloc (.cells #[.int .i64 b1,.int .i64 b2] 60)
 have c1:=cells_new (W:=W) (cs:=[.int .i64 a1,.int .i64 a2]) (t:=60) rfl
 have c2:=cells_new (W:=W.alloc (.cells #[.int .i64 a1,.int .i64 a2] 60)) (cs:=[.int .i64 b1,.int .i64 b2]) (t:=60) rfl
 have ga:=grownBy_alloc (W.alloc (.cells #[.int .i64 a1,.int .i64 a2] 60)) (.cells #[.int .i64 b1,.int .i64 b2] 60)
 have hs:=And.intro (ga.cell (c1 0 _ rfl) (by simp)) (And.intro (ga.cell (c1 1 _ rfl) (by simp)) (And.intro (c2 0 _ rfl) (c2 1 _ rfl)))
 rw [World.size_alloc] at hs
 have HS:=Lib.hid (And.intro hg hs)
 clear hg c1 c2 ga hs
 go_enter Tryz.func76,Tryz.ntmps76
 go_wp2_with fail
 refine gen_code (fun Z => Grw W Z∧Z.cell? ⟨W.heap.size,0,none⟩ = some (.int .i64 a1)∧Z.cell? ⟨W.heap.size,1,none⟩ = some (.int .i64 a2)∧Z.cell? ⟨W.heap.size + 1,0,none⟩ = some (.int .i64 b1)∧Z.cell? ⟨W.heap.size + 1,1,none⟩ = some (.int .i64 b2)) HS.out ?_
 rintro Z ⟨hz,z1,z2,z3,z4⟩
 obtain ⟨ba,hba⟩ : ∃ k,k = W.heap.size:=⟨_,rfl⟩
 obtain ⟨bb,hbb⟩ : ∃ k,k = W.heap.size + 1:=⟨_,rfl⟩
 rw [← hbb] at z3 z4
 rw [← hba] at z1 z2
 rw [← hbb, ← hba]
 clear hba hbb HS
 have HZ:=Lib.hid hz
 refine wp_region_mix [0,1,2,3,5,6,7,8] [4,9,10,11,12] (fun w' => w'.cell? ⟨ba,0,none⟩ = some (.int .i64 a1)∧w'.cell? ⟨ba,1,none⟩ = some (.int .i64 a2)∧w'.cell? ⟨bb,0,none⟩ = some (.int .i64 b1)∧w'.cell? ⟨bb,1,none⟩ = some (.int .i64 b2)) (by kernel_rfl) (by kernel_rfl) (by kernel_rfl) ⟨z1,z2,z3,z4⟩ ?_
 have hs : Z.drew.cell? ⟨ba,0,none⟩ = some (.int .i64 a1)∧Z.drew.cell? ⟨ba,1,none⟩ = some (.int .i64 a2)∧Z.drew.cell? ⟨bb,0,none⟩ = some (.int .i64 b1)∧Z.drew.cell? ⟨bb,1,none⟩ = some (.int .i64 b2):=⟨z1,z2,z3,z4⟩
 have hz':=hz.drew
 generalize Z.drew = V at *
 have HV:=Lib.hid (And.intro hz' hs)
 clear hz hz' hs z1 z2 z3 z4
 repeat (
  refine wpHeads_cons (v:=?_) rfl (Or.inl ⟨by rfl, ?_⟩) ?_
  rotate_left
  ·(intro W hW; obtain ⟨q1,q2,q3,q4⟩:=hW; go_simp; try with_reducible rfl)
  simp only [Act.put,List.setIfInBounds_toArray])
 refine wpHeads_nil ?_
 refine wpTails_cons rfl ?_
 go_wp2_with (go_at_call 52; refine (cmpI_any _ _ _).mono ?_; rintro e w' ⟨rfl,hw⟩; rw [hw]; clear hw w')
 refine tail_mk HV.out.2 ?_
 refine wpTails_cons rfl ?_
 go_wp2_with (go_at_call 52; refine (cmpI_any _ _ _).mono ?_; rintro e w' ⟨rfl,hw⟩; rw [hw]; clear hw w')
 refine tail_mk HV.out.2 ?_
 refine wpTails_cons rfl ?_
 have hoc:=orI_cmp (a1,a2) (b1,b2)
 obtain ⟨r1,hr1⟩ : ∃ r,r = cmpI a1 b1:=⟨_,rfl⟩
 obtain ⟨r2,hr2⟩ : ∃ r,r = cmpI a2 b2:=⟨_,rfl⟩
 dsimp only at hoc
 rw [← hr1, ← hr2] at hoc ⊢
 have HO:=Lib.hid hoc
 clear hr1 hr2 hoc
 go_wp2_with fail
 have gA:=grownBy_alloc V (.cells #[.int .i64 r1,.int .i64 r2] 3)
 have s2:=And.intro (gA.cell HV.out.2.1 (by simp)) (And.intro (gA.cell HV.out.2.2.1 (by simp)) (And.intro (gA.cell HV.out.2.2.2.1 (by simp)) (gA.cell HV.out.2.2.2.2 (by simp))))
 have H2:=Lib.hid s2
 have hI : Ints (V.alloc (.cells #[.int .i64 r1,.int .i64 r2] 3)) (.slice (some ⟨V.heap.size,0,none⟩) 2 2) [r1,r2]:=(show OwnI _ V.heap.size 3 (.slice (some ⟨V.heap.size,0,none⟩) 2 2) [r1,r2] from World.ownsRow_lit (size:=1) V #[.int .i64 r1,.int .i64 r2] 2 (Nat.le_refl _) (by unfold maxLen; omega) rfl).lst
 have HI:=Lib.hid hI
 clear gA s2 hI
 refine tail_mk H2.out ?_
 refine wpTails_cons rfl ?_
 go_wp2_with fail
 refine (cmpOr_any _ [r1,r2] _ HI.out).mono ?_
 rintro e W9 ⟨rfl,rfl⟩
 go_wp2_with fail
 refine tail_mk H2.out ?_
 refine wpTails_one rfl ?_
 go_wp2_with fail
 refine thenQ_mk ?_
 go_wp2_with fail
 go_ret
 exact ⟨ret_int HO.out,HV.out.1.alloc _⟩
end Go.Proofs.YtgblfjccccdidaaGreat
end
section
namespace Go.Proofs.YtgblfjccccdidaaGreat
open Go.RowKit Go.Dfl Go.Gra
def BoxG (W : World) (b : Nat) (n : Int) (cv : Value) : Prop:=W.cell? ⟨b,0,none⟩ = some (.int .i64 n)∧W.cell? ⟨b,1,none⟩ = some cv
theorem BoxG.new (W : World) (n : Int) (cv : Value) (t : TypeId) : BoxG (W.alloc (.cells #[.int .i64 n,cv] t)) W.heap.size n cv:=by
 have hc:=cells_new (W:=W) (cs:=[.int .i64 n,cv]) (t:=t) rfl
 exact ⟨hc 0 _ rfl,hc 1 _ rfl⟩
theorem BoxG.grown {W W' : World} {b : Nat} {n : Int} {cv : Value} {row : Option Nat} (h : BoxG W b n cv) (hg : W.grownBy W' row) (hne : some b ≠ row) : BoxG W' b n cv:=⟨hg.cell h.1 hne,hg.cell h.2 hne⟩
theorem BoxG.below {W W' : World} {b : Nat} {n : Int} {cv : Value} (h : BoxG W b n cv) (hb : Below W.heap.size W W') : BoxG W' b n cv:=h.grown (grownBy_below hb) (by simp)
theorem BoxG.lt {W : World} {b : Nat} {n : Int} {cv : Value} (h : BoxG W b n cv) : b < W.heap.size:=World.block_lt_of_cell? W _ h.1
theorem pairs_rd {W : World} {cv : Value} {es : List (Int × Int)} (h : Pairs W cv es) : ∃ a c,cv = .slice a es.length c∧es.length ≤ 9223372036854775807 ∧
  (∀ x : Int,0 ≤ x→x < es.length→∀ Z,(Instr.indexAt 51 (.slice a es.length c) (.int .i64 x)).run Tryz.prog Z = .ok (.pointer (some ⟨blk a,ofs a + x.toNat * 2,none⟩)) Z) ∧
  ∀ k,k < es.length→blk a < W.heap.size∧∀ Z,Below W.heap.size W Z→Z.cell? ⟨blk a,ofs a + k * 2,none⟩ = some (.int .i64 (nth es k).1)∧Z.cell? ⟨blk a,ofs a + k * 2 + 1,none⟩ = some (.int .i64 (nth es k).2):=by
 obtain ⟨a,c,rfl,h1,h2,h3,h4⟩:=h.out2 sEdge
 refine ⟨a,c,rfl,h1,fun x => h2 .i64 x,fun k hk => ⟨h4 k hk,fun Z hb => ⟨?_, ?_⟩⟩⟩
 ·rw [hb.cell (p:=⟨blk a,ofs a + k * 2,none⟩) (h4 k hk),(h3 k hk).1]; simp
 ·rw [hb.cell (p:=⟨blk a,ofs a + k * 2 + 1,none⟩) (h4 k hk),(h3 k hk).2]; simp
set_option maxHeartbeats 3200000 in
set_option maxRecDepth 100000 in
theorem gCheck_any (g : G) (cv : Value) (W : World) (h : Pairs W cv g.es) : Calls Tryz.prog 78 #[GV g cv] W fun e W' => e = .returned (.int .i64 (gCode g))∧Below W.heap.size W W':=by
 obtain ⟨ca,cc,rfl,hlen,hci,hcc⟩:=pairs_rd h
 have HC:=Lib.hid hcc
 clear h hcc
 obtain ⟨n,es⟩:=g
 dsimp only at *
 unfold GV
 dsimp only
 by_cases h1 : n < 0
 ·go_enter Tryz.func78,Tryz.ntmps78
  go_wp2_with fail
  go_ret
  exact ⟨ret_int (gCode_neg h1).symm,(Below.refl _ _).alloc (Nat.le_refl _) _⟩
 by_cases h2 : 8192 < n
 ·go_enter Tryz.func78,Tryz.ntmps78
  go_wp2_with fail
  go_ret
  exact ⟨ret_int (gCode_big (by dsimp only; omega) (.inl h2)).symm,(Below.refl _ _).alloc (Nat.le_refl _) _⟩
 by_cases h3 : 32768 < es.length
 ·have h3' : (32768 : Int) < (es.length : Int):=by omega
  go_enter Tryz.func78,Tryz.ntmps78
  go_wp2_with fail
  go_ret
  exact ⟨ret_int (gCode_big (by dsimp only; omega) (.inr h3)).symm,(Below.refl _ _).alloc (Nat.le_refl _) _⟩
 have hcode : gCode ⟨n,es⟩ = scanE n (prevE es 0) (es.drop 0):=gCode_scan (by dsimp only; omega) (by dsimp only; omega) (by dsimp only; omega)
 have HK:=Lib.hid hcode
 have hd1 : decide (n < 0) = false:=by simpa using h1
 have hd2 : decide (8192 < n) = false:=by simpa using h2
 have hd3 : decide ((32768 : Int) < (es.length : Int)) = false:=by simp; omega
 have hl : es.length ≤ 32768:=by omega
 clear hcode h1 h2 h3
 go_enter Tryz.func78,Tryz.ntmps78
 go_wp2_with fail
 clear hd1 hd2 hd3
 refine gen_code (fun Z => BoxG Z W.heap.size n (.slice ca es.length cc)∧Below W.heap.size W Z) ⟨BoxG.new _ _ _ _,(Below.refl _ _).alloc (Nat.le_refl _) _⟩ ?_
 rintro W1 h5
 obtain ⟨bw,hbw⟩ : ∃ bw,bw = W.heap.size:=⟨_,rfl⟩
 rw [← hbw] at h5 ⊢
 have H5:=Lib.hid h5
 have HBW:=Lib.hid hbw
 clear h5 hbw
 go_loopw [3,4,20] (fun _ _ x wr => ∃ k : Nat,k ≤ es.length∧x = .int .i64 k∧Hid (BoxG wr bw n (.slice ca es.length cc)∧Below bw W wr∧gCode ⟨n,es⟩ = scanE n (prevE es k) (es.drop k))) (fun _ _ x _ => es.length - (intOf x).toNat)
 case atStart => exact ⟨0,by omega,rfl,H5.out.1,H5.out.2,HK.out⟩
 case round =>
  clear H5
  obtain ⟨k,hk,rfl,hh⟩:=hrel
  obtain ⟨b0,b1⟩:=hh.out.1
  have hbl:=hh.out.1.lt
  have hbn : bw ≠ wr.heap.size:=by omega
  by_cases hlt : k < es.length
  ·have hbW : Below W.heap.size W wr:=by rw [← HBW.out]; exact hh.out.2.1
   obtain ⟨p0,p1⟩:=(HC.out k hlt).2 wr hbW
   obtain ⟨e,he⟩ : ∃ e,e = nth es k:=⟨_,rfl⟩
   rw [← he] at p0 p1
   have HE:=Lib.hid he
   clear he hbW
   obtain ⟨x,y⟩:=e
   dsimp only at p0 p1
   cases hx : nodeB n x
   ·go_wp2_with (go_at_call 73; refine (node_any _ _ _).mono ?_; rintro e w' ⟨rfl,hw⟩; rw [hw]; clear hw w')
    go_ret
    refine ⟨ret_int ?_, ?_⟩
    ·rw [hh.out.2.2,scanE_bad hlt (by rw [← HE.out]; simp [inB,hx])]
    ·have h9:=hh.out.2.1.alloc (Nat.le_of_lt hbl) (.cells #[.int .i64 x,.int .i64 y] 60)
     rw [HBW.out] at h9; exact h9
   ·cases hy : nodeB n y
    ·go_wp2_with (go_at_call 73; refine (node_any _ _ _).mono ?_; rintro e w' ⟨rfl,hw⟩; rw [hw]; clear hw w')
     go_ret
     refine ⟨ret_int ?_, ?_⟩
     ·rw [hh.out.2.2,scanE_bad hlt (by rw [← HE.out]; simp [inB,hx,hy])]
     ·have h9:=hh.out.2.1.alloc (Nat.le_of_lt hbl) (.cells #[.int .i64 x,.int .i64 y] 60)
      rw [HBW.out] at h9; exact h9
    ·have HXY : Hid (inB n (nth es k) = true):=Lib.hid (by rw [← HE.out]; simp [inB,hx,hy])
     have hB1:=And.intro (hh.out.1.grown (grownBy_alloc _ (.cells #[.int .i64 x,.int .i64 y] 60)) (by simp)) (hh.out.2.1.alloc (Nat.le_of_lt hbl) (.cells #[.int .i64 x,.int .i64 y] 60))
     by_cases h0 : k = 0
     ·subst h0
      have HB1:=Lib.hid hB1
      rw [Nat.zero_mul,Nat.add_zero] at p0 p1
      rw [show ((0 : Nat) : Int) = 0 from rfl]
      have hz : (0 : Int) < (es.length : Int):=by omega
      clear hB1
      go_wp2_with (go_at_call 73; refine (node_any _ _ _).mono ?_; rintro e w' ⟨rfl,hw⟩; rw [hw]; clear hw w')
      go_quiet (fail)
      go_wp2_with fail
      go_roundw
      case rel => exact ⟨1,by omega,by go_num,HB1.out.1.grown (grownBy_qt (by first | exact Qt.refl _ | exact Qt.drewN _ _ | exact (Qt.drewN _ _).trans (Qt.drewN _ _) | exact ((Qt.drewN _ _).trans (Qt.drewN _ _)).trans (Qt.drewN _ _) | exact Qt.drew _ | exact (Qt.drewN _ _).trans (Qt.drew _))) (by simp),HB1.out.2.trans (Qt.below (by first | exact Qt.refl _ | exact Qt.drewN _ _ | exact (Qt.drewN _ _).trans (Qt.drewN _ _) | exact ((Qt.drewN _ _).trans (Qt.drewN _ _)).trans (Qt.drewN _ _) | exact Qt.drew _ | exact (Qt.drewN _ _).trans (Qt.drew _)) _),by rw [hh.out.2.2]; exact scanE_ok hlt HXY.out (by omega)⟩
      case measure => simp [intOf]; omega
     ·obtain ⟨m,rfl⟩ : ∃ m,k = m + 1:=⟨k - 1,by omega⟩
      have cq:=cells_new (W:=wr) (cs:=[.int .i64 x,.int .i64 y]) (t:=60) rfl
      have hbW : Below W.heap.size W (wr.alloc (.cells #[.int .i64 x,.int .i64 y] 60)):=by rw [← HBW.out]; exact hB1.2
      obtain ⟨r0,r1⟩:=(HC.out m (by omega)).2 _ hbW
      obtain ⟨d,hd⟩ : ∃ d,d = nth es m:=⟨_,rfl⟩
      rw [← hd] at r0 r1
      have HD:=Lib.hid hd
      clear hd
      obtain ⟨u,v⟩:=d
      dsimp only at r0 r1
      have HB1:=Lib.hid (And.intro hB1 (And.intro r0 (And.intro r1 (And.intro (cq 0 _ rfl) (cq 1 _ rfl)))))
      clear hB1 r0 r1 cq hbW
      have hm2 : (m : Int) + 1 < (es.length : Int):=by omega
      have hm4 : (0 : Int) ≤ (m : Int) + 1:=by omega
      have hm5 : ((m : Int) + 1).toNat = m + 1:=by omega
      go_wp2_with (go_at_call 73; refine (node_any _ _ _).mono ?_; rintro e w' ⟨rfl,hw⟩; rw [hw]; clear hw w')
      refine gen_code (fun Z => (BoxG Z bw n (.slice ca es.length cc)∧Below bw W Z)∧Z.cell? ⟨blk ca,ofs ca + m * 2,none⟩ = some (.int .i64 u)∧Z.cell? ⟨blk ca,ofs ca + m * 2 + 1,none⟩ = some (.int .i64 v)∧Z.cell? ⟨wr.heap.size,0,none⟩ = some (.int .i64 x)∧Z.cell? ⟨wr.heap.size,1,none⟩ = some (.int .i64 y)) HB1.out ?_
      rintro Z ⟨hz,z0,z1,z2,z3⟩
      obtain ⟨bd,hbd⟩ : ∃ bd,bd = wr.heap.size:=⟨_,rfl⟩
      rw [← hbd] at z2 z3 ⊢
      clear hbd HB1 p0 p1 b0 b1 hbl hbn
      have zb:=hz.1.2
      have hZ:=below_drewN (Below.refl Z.heap.size Z) 1
      rw [show Z.drewN 1 = Z.drew from rfl] at hZ
      have HZ:=Lib.hid hz
      have hm1 : (m : Int) < (es.length : Int):=by omega
      have hm3 : (0 : Int) ≤ (m : Int):=by omega
      generalize hkI : (m : Int) + 1 = kI at *
      have hw : IntKind.i64.wrap (kI - 1) = (m : Int):=by rw [← hkI,show (m : Int) + 1 - 1 = m by omega]; exact IntWalk.i64_in _ (by omega)
      have hd0 : decide (0 < kI) = true:=by simp; omega
      have HKI:=Lib.hid hkI
      clear hkI hm2 hm4 hm5
      refine wp_region_mix [0,1,2,3,4,5,6,7,8,9] [10,11,12] (fun w' => w'.cell? ⟨bw,1,none⟩ = some (.slice ca es.length cc)∧w'.cell? ⟨blk ca,ofs ca + m * 2,none⟩ = some (.int .i64 u)∧w'.cell? ⟨blk ca,ofs ca + m * 2 + 1,none⟩ = some (.int .i64 v)∧w'.cell? ⟨bd,0,none⟩ = some (.int .i64 x)∧w'.cell? ⟨bd,1,none⟩ = some (.int .i64 y)) (by kernel_rfl) (by kernel_rfl) (by kernel_rfl) ⟨zb,z0,z1,z2,z3⟩ ?_
      have hs : Z.drew.cell? ⟨bw,1,none⟩ = some (.slice ca es.length cc)∧Z.drew.cell? ⟨blk ca,ofs ca + m * 2,none⟩ = some (.int .i64 u)∧Z.drew.cell? ⟨blk ca,ofs ca + m * 2 + 1,none⟩ = some (.int .i64 v)∧Z.drew.cell? ⟨bd,0,none⟩ = some (.int .i64 x)∧Z.drew.cell? ⟨bd,1,none⟩ = some (.int .i64 y):=⟨zb,z0,z1,z2,z3⟩
      generalize Z.drew = V at *
      have HV:=Lib.hid (And.intro hZ hs)
      clear hZ hs hz zb z0 z1 z2 z3
      repeat (
       refine wpHeads_cons (v:=?_) rfl (Or.inl ⟨by rfl, ?_⟩) ?_
       rotate_left
       ·(intro W hW; obtain ⟨q1,q2,q3,q4,q5⟩:=hW; go_simp; try with_reducible rfl)
       simp only [Act.put,List.setIfInBounds_toArray,List.getElem_toArray,List.getElem_cons_zero,List.getElem_cons_succ,List.set_cons_succ,List.set_cons_zero])
      refine wpHeads_nil ?_
      refine wpTails_cons rfl ?_
      go_wp2_with fail
      refine (compare_any (u,v) (x,y) _).mono ?_
      rintro e W9 ⟨rfl,hg9⟩
      have hb9:=hg9.below
      have g9:=grownBy_below hb9
      have s9:=And.intro (g9.cell HV.out.2.1 (by simp)) (And.intro (g9.cell HV.out.2.2.1 (by simp)) (And.intro (g9.cell HV.out.2.2.2.1 (by simp)) (And.intro (g9.cell HV.out.2.2.2.2.1 (by simp)) (g9.cell HV.out.2.2.2.2.2 (by simp)))))
      have hbz:=HV.out.1.trans (hb9.mono HV.out.1.size)
      have H9:=Lib.hid (And.intro s9 (And.intro (HZ.out.1.below hbz) (HZ.out.2.trans (hbz.mono (Nat.le_of_lt HZ.out.1.lt)))))
      have hcmp:=cmpE_nonneg (u,v) (x,y)
      obtain ⟨r,hr⟩ : ∃ r,r = cmpE (u,v) (x,y):=⟨_,rfl⟩
      rw [← hr] at hcmp ⊢
      clear hg9 hb9 g9 s9 hbz hr
      go_wp2_with fail
      refine tail_mk H9.out.1 ?_
      refine wpTails_cons rfl ?_
      by_cases hr0 : 0 ≤ r
      ·have hd : decide (0 ≤ r) = true:=by simpa using hr0
       have HO:=Lib.hid (hcmp.1 hr0)
       clear hcmp hr0
       go_wp2_with fail
       refine tail_mk H9.out.1 ?_
       refine wpTails_one rfl ?_
       go_wp2_with fail
       refine thenQ_mk ?_
       go_wp2_with fail
       go_ret
       refine ⟨ret_int ?_,by have h9:=H9.out.2.2; rw [HBW.out] at h9; exact h9⟩
       rw [hh.out.2.2,scanE_ord hlt HXY.out (by rw [← HE.out, ← HD.out]; exact HO.out)]
      ·have hd : decide (0 ≤ r) = false:=by simpa using hr0
       have HO : Hid (eLt (u,v) (x,y)):=Lib.hid (by
        apply Classical.byContradiction
        intro h; exact hr0 (hcmp.2 h))
       clear hcmp hr0
       go_wp2_with fail
       refine tail_mk H9.out.1 ?_
       refine wpTails_one rfl ?_
       go_wp2_with fail
       refine thenQ_mk ?_
       obtain rfl:=HKI.out
       go_wp2_with fail
       go_roundw
       case rel => exact ⟨m + 2,by omega,by go_num,H9.out.2.1,H9.out.2.2,by rw [hh.out.2.2]; exact scanE_ok hlt HXY.out (fun _ => by rw [show m + 1 - 1 = m by omega, ← HE.out, ← HD.out]; exact HO.out)⟩
       case measure => simp [intOf]; omega
  ·obtain rfl : k = es.length:=by omega
   go_wp2_with fail
   go_ret
   refine ⟨ret_int ?_,by have h9:=hh.out.2.1; rw [HBW.out] at h9; exact h9⟩
   rw [hh.out.2.2,List.drop_length]; rfl
end Go.Proofs.YtgblfjccccdidaaGreat
end
section
namespace Go.Dfl
open Go.RowKit Go.Sort Go.Proofs
variable {α : Type} [Inhabited α] {E : El α}
theorem get!_any {γ : Type} {inst : Inhabited γ} (l : List γ) (i : Nat) (h : i < l.length) : l[i]! = l[i]:=getElem!_pos l i h
theorem get!_toArray (l : List α) (i : Nat) (h : i < l.length) : l.toArray[i]! = nth l i:=by
 rw [getElem!_pos _ i (by simpa using h),nth_eq _ _ h]; simp
theorem OwnE.holdsK {w : World} {base g cap n : Nat} {e : TypeId} {l : List α} (h : OwnE E w base e (.slice (some ⟨g,0,none⟩) n cap) l) (hn : l.length = n) : HoldsK E.c E.sz w g 0 l.toArray:=by
 subst hn
 intro j hj
 rw [size_flatK] at hj
 have hj' : j < l.length * E.sz:=by simpa using hj
 have hi : j / E.sz < l.length:=Nat.div_lt_of_lt_mul (by rw [Nat.mul_comm]; exact hj')
 have hr : j % E.sz < E.sz:=Nat.mod_lt _ E.pos
 obtain ⟨a,c,he, -, -,h3⟩:=OwnE.sliced h
 simp only [Value.slice.injEq] at he
 obtain ⟨rfl, -,rfl⟩:=he
 obtain ⟨-, -,h4⟩:=h3 _ hi
 have h5:=h4 _ hr
 have e1 : blk (some (⟨g,0,none⟩ : Addr)) = g:=rfl
 have e2 : ofs (some (⟨g,0,none⟩ : Addr)) = 0:=rfl
 rw [e1,e2,Nat.zero_add,show j / E.sz * E.sz + j % E.sz = j by rw [Nat.mul_comm]; exact Nat.div_add_mod j E.sz] at h5
 constructor
 ·rw [Nat.zero_add,h5,get_flatK _ _ _ _ (by simpa using hj'),get!_toArray _ _ hi]
  have hlen : j % E.sz < (E.c (nth l (j / E.sz))).length:=by rw [E.len]; exact hr
  show some ((E.c (nth l (j / E.sz)))[j % E.sz]?.getD undef) = _
  rw [List.getElem?_eq_getElem hlen,get!_any (E.c (nth l (j / E.sz))) (j % E.sz) hlen]; rfl
 ·obtain ⟨h1,⟨h2, -⟩ | ⟨g2,cap2,cur,hv,hg,hh, -⟩⟩:=h
  ·simp at h2
  ·simp only [Value.slice.injEq,Option.some.injEq,Addr.mk.injEq] at hv
   obtain ⟨⟨rfl, -⟩, -,rfl⟩:=hv
   simp [World.frozen?,hh]
theorem sortWorldK_heap (E : El α) (w : World) (g m : Nat) (d : Array α) (os : Array Obj) : ∃ f : Array Value→Array Value,(sortWorldK E.c E.sz w g 0 m d os).heap = (w.heap.modify g (onCells f)) ++ os∧∀ c,(f c).size = c.size:=⟨_,rfl,fun c => by simp [putCells]⟩
theorem OwnE.sortK {w : World} {base g cap n : Nat} {e : TypeId} {l : List α} (h : OwnE E w base e (.slice (some ⟨g,0,none⟩) n cap) l) (hn : l.length = n) (d : Array α) (hd : d.size = n) (m : Nat) (os : Array Obj) :
  OwnE E (sortWorldK E.c E.sz w g 0 m d os) base e (.slice (some ⟨g,0,none⟩) n cap) d.toList∧w.grownBy (sortWorldK E.c E.sz w g 0 m d os) (some g):=by
 subst hn
 have hH:=OwnE.holdsK h rfl
 obtain ⟨h1,⟨h2, -⟩ | ⟨g2,cap2,cur,hv,hg,hh,hc,hm,hs,ht⟩⟩:=h
 ·simp at h2
 ·simp only [Value.slice.injEq,Option.some.injEq,Addr.mk.injEq] at hv
  obtain ⟨⟨rfl, -⟩, -,rfl⟩:=hv
  have hlt:=(Array.getElem?_eq_some_iff.1 hh).1
  obtain ⟨f,hf,hfs⟩:=sortWorldK_heap E w g m d os
  have hheap : ∀ k,k < w.heap.size→(sortWorldK E.c E.sz w g 0 m d os).heap[k]? = if k = g then some (.cells (f cur) e (0,0)) else w.heap[k]?:=fun k hk => by
   rw [hf,Array.getElem?_append_left (by simpa using hk),Array.getElem?_modify]
   by_cases e2 : g = k
   ·subst e2
    rw [if_pos rfl,if_pos rfl,hh]; rfl
   ·rw [if_neg e2,if_neg (fun e3 => e2 e3.symm)]
  have hdt : d.toList.length = l.length:=by rw [Array.length_toList,hd]
  refine ⟨⟨by rw [flat_len],.inr ⟨g,cap,f cur,by rw [hdt],hg,by rw [hheap g hlt,if_pos rfl],by rw [hdt]; exact hc,hm,by rw [hfs,hs], ?_⟩⟩,⟨rfl,rfl,rfl, ?_,fun k hk hne => ?_⟩⟩
  ·rw [hdt]
   have hsz : l.length * E.sz ≤ cur.size:=by rw [hs]; exact Nat.mul_le_mul_right _ hc
   have e9 : (putRowK E.c E.sz (Go.Sort.ahead w m) g 0 d).heap.size = w.heap.size:=by unfold putRowK putRow mapBlock; simp
   have hH2 : HoldsK E.c E.sz (sortWorldK E.c E.sz w g 0 m d os) g 0 d:=holdsK_grow _ _ _ _ _ _ _ (by rw [e9]; exact hlt) (holdsK_putRowK _ _ _ _ _ _ _ (holdsK_ahead _ _ _ _ _ _ _ hH) (by simpa using hd))
   refine List.ext_getElem? fun t => ?_
   by_cases htl : t < l.length * E.sz
   ·have hi : t / E.sz < l.length:=Nat.div_lt_of_lt_mul (by rw [Nat.mul_comm]; exact htl)
    have hr : t % E.sz < E.sz:=Nat.mod_lt _ E.pos
    have htm : t / E.sz * E.sz + t % E.sz = t:=by rw [Nat.mul_comm]; exact Nat.div_add_mod t E.sz
    have hdl : t / E.sz < d.toList.length:=by rw [hdt]; exact hi
    have hlen : t % E.sz < (E.c (nth d.toList (t / E.sz))).length:=by rw [E.len]; exact hr
    have hR:=flat_get E d.toList (t / E.sz) (t % E.sz) hdl hr
    rw [htm] at hR
    rw [hR,List.getElem?_take,if_pos htl,List.getElem?_eq_getElem hlen]
    have hcell:=(hH2.cell (i:=t / E.sz) (c:=t % E.sz) (by rw [hd]; exact hi) hr).1
    have hdx : d[t / E.sz]! = nth d.toList (t / E.sz):=by
     rw [getElem!_pos d _ (by rw [hd]; exact hi),nth_eq _ _ hdl]; simp
    rw [Nat.zero_add,htm,hdx,get!_any (E.c (nth d.toList (t / E.sz))) (t % E.sz) hlen] at hcell
    have hg2:=hheap g hlt
    rw [if_pos rfl] at hg2
    rw [← hcell]
    simp [World.cell?,hg2]
   ·rw [List.getElem?_take,if_neg htl,List.getElem?_eq_none (by rw [flat_len,hdt]; omega)]
  ·rw [hf]; simp
  ·rw [hheap k hk,if_neg (fun e3 => hne (by rw [e3]))]
end Go.Dfl
end
section
namespace Go.Gra
open Go.Dfl (nth nth_mem mem_nth nth_eq nth_ext)
def kpB (l : List (Int × Int)) (i : Nat) : Bool:=decide (i = 0) || decide (nth l i ≠ nth l (i - 1))
def cpT (l : List (Int × Int)) (j : Nat) : List (Int × Int):=((List.range j).filter (kpB l)).map (nth l)
theorem cpT_yes {l : List (Int × Int)} {j : Nat} (h : kpB l j = true) : cpT l (j + 1) = cpT l j ++ [nth l j]:=by
 unfold cpT; rw [List.range_succ,List.filter_append,List.map_append]; simp [h]
theorem cpT_no {l : List (Int × Int)} {j : Nat} (h : kpB l j = false) : cpT l (j + 1) = cpT l j:=by
 unfold cpT; rw [List.range_succ,List.filter_append,List.map_append]; simp [h]
theorem cpT_len (l : List (Int × Int)) (j : Nat) : (cpT l j).length ≤ j:=by
 unfold cpT; rw [List.length_map]; exact Nat.le_trans (List.length_filter_le _ _) (by simp)
theorem cpT_all {l : List (Int × Int)} : ∀ {j : Nat},j ≤ l.length→(∀ i,i < j→kpB l i = true)→cpT l j = l.take j
 | 0,_,_ => by simp [cpT]
 | j + 1,hj,h => by rw [cpT_yes (h j (by omega)),cpT_all (by omega) (fun i hi => h i (by omega)),Go.Dfl.take_snoc _ _ (by omega)]
theorem kpB_zero (l : List (Int × Int)) : kpB l 0 = true:=by simp [kpB]
theorem kpB_succ {l : List (Int × Int)} {i : Nat} : kpB l (i + 1) = decide (nth l (i + 1) ≠ nth l i):=by simp [kpB]
theorem cpT_small {l : List (Int × Int)} (h : l.length < 2) : cpT l l.length = l:=by
 have h1 : ∀ i,i < l.length→kpB l i = true:=fun i hi => by
  obtain rfl : i = 0:=by omega
  exact kpB_zero l
 rw [cpT_all (Nat.le_refl _) h1,List.take_length]
theorem sortOf_cp {l : List (Int × Int)} (h : ∀ i j,i < j→j < l.length→¬ eLt (nth l j) (nth l i)) : SortOf l (cpT l l.length):=by
 refine ⟨?_,fun e => ?_⟩
 ·unfold cpT
  rw [List.pairwise_map]
  have hp : ((List.range l.length).filter (kpB l)).Pairwise (· < ·):=List.pairwise_lt_range.filter _
  refine hp.imp_of_mem fun {a b} ha hb hab => ?_
  obtain ⟨hb1,hb2⟩:=List.mem_filter.1 hb
  rw [List.mem_range] at hb1
  obtain ⟨c,rfl⟩ : ∃ c,b = c + 1:=⟨b - 1,by omega⟩
  rw [kpB_succ,decide_eq_true_eq] at hb2
  have h1:=h c (c + 1) (by omega) hb1
  have h2 : eLt (nth l c) (nth l (c + 1)):=by
   apply Classical.byContradiction
   intro h3; exact hb2 (eLt_total h1 h3)
  by_cases e : a = c
  ·subst e; exact h2
  ·have h3:=h a c (by omega) (by omega)
   by_cases h4 : eLt (nth l a) (nth l c)
   ·exact eLt_trans h4 h2
   ·rw [eLt_total h4 h3]; exact h2
 ·unfold cpT
  simp only [List.mem_map,List.mem_filter,List.mem_range]
  constructor
  ·rintro ⟨i,⟨hi, -⟩,rfl⟩; exact nth_mem _ _ hi
  ·intro he
   obtain ⟨i,hi,rfl⟩:=mem_nth he
   induction i with
   | zero => exact ⟨0,⟨hi,kpB_zero l⟩,rfl⟩
   | succ i ih =>
     by_cases hk : kpB l (i + 1) = true
     ·exact ⟨i + 1,⟨hi,hk⟩,rfl⟩
     ·have h1 : nth l (i + 1) = nth l i:=by
       rw [kpB_succ] at hk; simpa using hk
      obtain ⟨j,hj,e⟩:=ih (by omega) (nth_mem _ _ (by omega))
      exact ⟨j,hj,by rw [h1]; exact e⟩
structure CI (l : List (Int × Int)) (j kk : Nat) (r : List (Int × Int)) : Prop where
 len : r.length = l.length
 pre : r.take kk = cpT l j
 kl : kk = (cpT l j).length
 lt : kk + 1 ≤ j
 rest : ∀ i,j ≤ i + 1→i < l.length→nth r i = nth l i
theorem CI.start {l : List (Int × Int)} {k : Nat} (hk : k < l.length) (h : ∀ i,i < k→kpB l i = true) (h0 : kpB l k = false) : CI l (k + 1) k l:=by
 have e : cpT l (k + 1) = l.take k:=by rw [cpT_no h0,cpT_all (by omega) h]
 exact ⟨rfl,e.symm,by rw [e,List.length_take]; omega,by omega,fun _ _ _ => rfl⟩
theorem CI.skip {l r : List (Int × Int)} {j kk : Nat} (h : CI l j kk r) (h0 : kpB l j = false) : CI l (j + 1) kk r :=
 ⟨h.len,by rw [cpT_no h0]; exact h.pre,by rw [cpT_no h0]; exact h.kl,by have:=h.lt; omega,fun i hi hl => h.rest i (by omega) hl⟩
theorem CI.keep {l r : List (Int × Int)} {j kk : Nat} (h : CI l j kk r) (h0 : kpB l j = true) (hj : j < l.length) : CI l (j + 1) (kk + 1) (r.set kk (nth l j)):=by
 have hlt:=h.lt
 have hkr : kk < r.length:=by rw [h.len]; omega
 refine ⟨by rw [List.length_set]; exact h.len, ?_,by rw [cpT_yes h0,List.length_append, ← h.kl]; rfl,by omega,fun i hi hl => ?_⟩
 ·rw [cpT_yes h0, ← h.pre,Go.Dfl.take_snoc _ _ (by rw [List.length_set]; exact hkr),Go.Dfl.nth_set,if_pos ⟨rfl,hkr⟩,List.take_set_of_le (Nat.le_refl _)]
 ·rw [Go.Dfl.nth_set,if_neg (by omega)]; exact h.rest i (by omega) hl
theorem CI.get {l r : List (Int × Int)} {j kk : Nat} (h : CI l j kk r) {i : Nat} (hi : i < kk) : nth (cpT l j) i = nth r i:=by
 rw [← h.pre]
 simp [Go.Dfl.nth,hi]
end Go.Gra
namespace Go.Dfl
open Go.RowKit
def RawE {α : Type} (E : El α) (w : World) (base g cap : Nat) (e : TypeId) : Prop:=∃ cur,base ≤ g∧w.heap[g]? = some (.cells cur e (0,0))∧cap ≤ maxLen∧cur.size = cap * E.sz
section
variable {α : Type} {E : El α} {w : World} {base g cap n : Nat} {e : TypeId} {l : List α}
theorem OwnE.raw (h : OwnE E w base e (.slice (some ⟨g,0,none⟩) n cap) l) : RawE E w base g cap e∧n ≤ cap:=by
 obtain ⟨h1,⟨h2, -⟩ | ⟨g2,cap2,cur,hv,hg,hh,hc,hm,hs,ht⟩⟩:=h
 ·simp at h2
 ·simp only [Value.slice.injEq,Option.some.injEq,Addr.mk.injEq] at hv
  obtain ⟨⟨rfl, -⟩,rfl,rfl⟩:=hv
  exact ⟨⟨cur,hg,hh,hm,hs⟩,hc⟩
theorem RawE.frozen (h : RawE E w base g cap e) (j : Nat) : w.frozen? ⟨g,j,none⟩ = false:=by
 obtain ⟨cur, -,hh, -⟩:=h
 simp [World.frozen?,hh]
theorem RawE.setCell (h : RawE E w base g cap e) (p : Addr) (v : Value) (hp : p.spot = none) : RawE E (w.setCell p v) base g cap e:=by
 obtain ⟨cur,hg,hh,hm,hs⟩:=h
 obtain ⟨pb,po,ps⟩:=p
 obtain rfl : ps = none:=hp
 by_cases he : pb = g
 ·subst he
  refine ⟨cur.setIfInBounds po v,hg, ?_,hm,by simpa using hs⟩
  rw [Go.Sort.setCell_eq]
  show (w.heap.modify pb (Go.Sort.onCells (·.setIfInBounds po v)))[pb]? = _
  rw [Array.getElem?_modify,if_pos rfl,hh]; rfl
 ·refine ⟨cur,hg, ?_,hm,hs⟩
  rw [(grownBy_setCell w ⟨pb,po,none⟩ v).block g (Array.getElem?_eq_some_iff.1 hh).1 (fun e2 => he (Option.some.inj e2).symm)]
  exact hh
theorem RawE.drewN (h : RawE E w base g cap e) (k : Nat) : RawE E (w.drewN k) base g cap e:=h
theorem RawE.isSome (h : RawE E w base g cap e) {j : Nat} (hj : j < cap * E.sz) : (w.cell? ⟨g,j,none⟩).isSome = true:=by
 obtain ⟨cur, -,hh, -,hs⟩:=h
 simp [World.cell?,hh,hs,hj]
theorem OwnE.ofCells [Inhabited α] (h : RawE E w base g cap e) (hc : n ≤ cap) (hn : l.length = n) (hcell : ∀ i,i < n→∀ j,j < E.sz→w.cell? ⟨g,i * E.sz + j,none⟩ = (E.c (nth l i))[j]?) : OwnE E w base e (.slice (some ⟨g,0,none⟩) n cap) l:=by
 subst hn
 obtain ⟨cur,hg,hh,hm,hs⟩:=h
 refine ⟨by rw [flat_len],.inr ⟨g,cap,cur,rfl,hg,hh,hc,hm,hs, ?_⟩⟩
 have hsz : l.length * E.sz ≤ cur.size:=by rw [hs]; exact Nat.mul_le_mul_right _ hc
 refine List.ext_getElem? fun t => ?_
 by_cases htl : t < l.length * E.sz
 ·have hi : t / E.sz < l.length:=Nat.div_lt_of_lt_mul (by rw [Nat.mul_comm]; exact htl)
  have hr : t % E.sz < E.sz:=Nat.mod_lt _ E.pos
  have htm : t / E.sz * E.sz + t % E.sz = t:=by rw [Nat.mul_comm]; exact Nat.div_add_mod t E.sz
  have hR:=flat_get E l (t / E.sz) (t % E.sz) hi hr
  have hC:=hcell _ hi _ hr
  rw [htm] at hR hC
  rw [hR, ← hC,List.getElem?_take,if_pos htl]
  simp [World.cell?,hh]
 ·rw [List.getElem?_take,if_neg htl,List.getElem?_eq_none (by rw [flat_len]; omega)]
end
end Go.Dfl
namespace Go.Proofs.YtgblfjccccdidaaGreat
open Go.RowKit Go.Dfl Go.Gra
def elE : El (Int × Int):=⟨2,fun e => [.int .i64 e.1,.int .i64 e.2],fun _ => rfl,fun x v hv => by simp at hv; rcases hv with rfl | rfl <;> rfl,by omega⟩
def RowC (w : World) (g : Nat) (r : List (Int × Int)) : Prop:=∀ i,i < r.length→w.cell? ⟨g,i * 2,none⟩ = some (.int .i64 (nth r i).1)∧w.cell? ⟨g,i * 2 + 1,none⟩ = some (.int .i64 (nth r i).2)
theorem OwnE.rowC {w : World} {base g cap n : Nat} {e : TypeId} {l : List (Int × Int)} (h : OwnE elE w base e (.slice (some ⟨g,0,none⟩) n cap) l) (hn : l.length = n) : RowC w g l:=by
 subst hn
 intro i hi
 obtain ⟨a,c,he, -, -,h3⟩:=Go.Dfl.OwnE.sliced h
 simp only [Value.slice.injEq] at he
 obtain ⟨rfl, -,rfl⟩:=he
 obtain ⟨-, -,h4⟩:=h3 i hi
 have h5:=h4 0 (by decide)
 have h6:=h4 1 (by decide)
 have e1 : blk (some (⟨g,0,none⟩ : Addr)) = g:=rfl
 have e2 : ofs (some (⟨g,0,none⟩ : Addr)) = 0:=rfl
 rw [e1,e2,Nat.zero_add] at h5 h6
 exact ⟨h5,h6⟩
theorem RowC.own {w : World} {base g cap n : Nat} {e : TypeId} {l : List (Int × Int)} (h : RowC w g l) (hr : RawE elE w base g cap e) (hc : n ≤ cap) (hn : l.length = n) : OwnE elE w base e (.slice (some ⟨g,0,none⟩) n cap) l :=
 OwnE.ofCells hr hc hn fun i hi j hj => by
  have hj' : j < 2:=hj
  obtain ⟨h1,h2⟩:=h i (by omega)
  rcases (by omega : j = 0 ∨ j = 1) with rfl | rfl
  ·exact h1
  ·exact h2
theorem RowC.set {w : World} {g : Nat} {r : List (Int × Int)} (h : RowC w g r) {i : Nat} (hi : i < r.length) (x y : Int) : RowC ((w.setCell ⟨g,i * 2,none⟩ (.int .i64 x)).setCell ⟨g,i * 2 + 1,none⟩ (.int .i64 y)) g (r.set i (x,y)):=by
 intro j hj
 rw [List.length_set] at hj
 obtain ⟨h1,h2⟩:=h j hj
 obtain ⟨h3,h4⟩:=h i hi
 rw [nth_set]
 by_cases e : i = j
 ·subst e
  rw [if_pos ⟨rfl,hi⟩]
  constructor
  ·rw [World.cell?_setCell_other _ _ _ _ (by intro e; simp at e)]
   exact World.cell?_setCell_same w _ _ h3
  ·exact World.cell?_setCell_same _ _ _ (by rw [World.cell?_setCell_other _ _ _ _ (by intro e; simp at e)]; exact h4)
 ·rw [if_neg (fun h => e h.1)]
  constructor
  ·rw [World.cell?_setCell_other _ _ _ _ (by intro e2; have:=congrArg Addr.off e2; dsimp only at this; omega),World.cell?_setCell_other _ _ _ _ (by intro e2; have:=congrArg Addr.off e2; dsimp only at this; omega)]; exact h1
  ·rw [World.cell?_setCell_other _ _ _ _ (by intro e2; have:=congrArg Addr.off e2; dsimp only at this; omega),World.cell?_setCell_other _ _ _ _ (by intro e2; have:=congrArg Addr.off e2; dsimp only at this; omega)]; exact h2
theorem edge_eql (x y : Int × Int) (w : World) : (binOp .eql 60 (ev x) (ev y)).run Tryz.prog w = .ok (.bool (decide (x = y))) w:=by
 have u3:=Tryz.underlying3
 have a3:=Tryz.isAgg3
 have z3:=Tryz.sizeOf3
 have hS : Tryz.prog.underlying 60 = some (.struct (Tryz.prog.fieldsOf 60)):=by kernel_rfl
 have hp : Tryz.prog.stoodInHeld 60 = false:=by kernel_rfl
 rw [run_eql_struct,show (10000 : Nat) = 9999 + 1 from rfl,run_equalIn_agg w 9999 60 _ _ hS hp]
 simp only [Program.fieldsOf,Tryz.underlying60]
 go_simp
 obtain ⟨x1,x2⟩:=x
 obtain ⟨y1,y2⟩:=y
 by_cases h1 : x1 = y1 <;> by_cases h2 : x2 = y2 <;> simp [h1,h2]
theorem edge_neq (x y : Int × Int) (w : World) : (binOp .neq 60 (ev x) (ev y)).run Tryz.prog w = .ok (.bool (decide (x ≠ y))) w:=by
 have u3:=Tryz.underlying3
 have a3:=Tryz.isAgg3
 have z3:=Tryz.sizeOf3
 have hS : Tryz.prog.underlying 60 = some (.struct (Tryz.prog.fieldsOf 60)):=by kernel_rfl
 have hp : Tryz.prog.stoodInHeld 60 = false:=by kernel_rfl
 rw [run_neq_struct,show (10000 : Nat) = 9999 + 1 from rfl,run_equalIn_agg w 9999 60 _ _ hS hp]
 simp only [Program.fieldsOf,Tryz.underlying60]
 go_simp
 obtain ⟨x1,x2⟩:=x
 obtain ⟨y1,y2⟩:=y
 by_cases h1 : x1 = y1 <;> by_cases h2 : x2 = y2 <;> simp [h1,h2]
def CompR (base g cap : Nat) (l : List (Int × Int)) (W : World) (e : Ending) (W' : World) : Prop:=∃ k,e = .returned (.slice (some ⟨g,0,none⟩) k cap)∧k = (cpT l l.length).length∧OwnE elE W' base 60 (.slice (some ⟨g,0,none⟩) k cap) (cpT l l.length)∧W.grownBy W' (some g)
theorem _root_.Go.World.grownBy.drewN' {w w' : World} {row : Option Nat} (h : w.grownBy w' row) (n : Nat) : w.grownBy (w'.drewN n) row:=grownBy_drewN h n
theorem own_wide {E : El (Int × Int)} {w w' : World} {base : Nat} {e : TypeId} {v : Value} {l : List (Int × Int)} (h : OwnE E w base e v l) (hg : w.grownBy w' none) : OwnE E w' base e v l:=OwnE.grown h hg (by cases v.ownBlock <;> simp)
theorem setCells_kept {E : El (Int × Int)} {base g cap : Nat} {e : TypeId} (k : Nat) (r : List (Int × Int)) : ∀ (vs : List Value) (o : Nat) (w : World),k * 2 ≤ o→RawE E w base g cap e→(∀ i,i < k→w.cell? ⟨g,i * 2,none⟩ = some (.int .i64 (nth r i).1)∧w.cell? ⟨g,i * 2 + 1,none⟩ = some (.int .i64 (nth r i).2)) →
  RawE E (w.setCells g o vs) base g cap e∧(∀ i,i < k→(w.setCells g o vs).cell? ⟨g,i * 2,none⟩ = some (.int .i64 (nth r i).1)∧(w.setCells g o vs).cell? ⟨g,i * 2 + 1,none⟩ = some (.int .i64 (nth r i).2))∧w.grownBy (w.setCells g o vs) (some g)
 | [],o,w,_,hr,hc => ⟨hr,hc,grownBy_refl _ _⟩
 | v :: vs,o,w,ho,hr,hc => by
   obtain ⟨h1,h2,h3⟩:=setCells_kept k r vs (o + 1) (w.setCell ⟨g,o,none⟩ v) (by omega) (hr.setCell _ _ rfl) (fun i hi => by
    obtain ⟨h1,h2⟩:=hc i hi
    constructor
    ·rw [World.cell?_setCell_other _ _ _ _ (by intro e2; have:=congrArg Addr.off e2; dsimp only at this; omega)]; exact h1
    ·rw [World.cell?_setCell_other _ _ _ _ (by intro e2; have:=congrArg Addr.off e2; dsimp only at this; omega)]; exact h2)
   exact ⟨h1,h2,grownBy_trans (grownBy_setCell w ⟨g,o,none⟩ v) h3⟩
theorem clear_edges {w : World} {base g cap kk n : Nat} (hr : RawE elE w base g cap 60) (hn : 0 < n) (hk : kk + n ≤ cap) (c : Nat) (ty : TypeId) :
  (Builtin.clear_ #[51] ty #[.slice (some ⟨g,kk * 2,none⟩) n c]).run Tryz.prog w = .ok (.tuple #[]) (w.setCells g (kk * 2) (Builtin.zeroCells #[.int .i64 0,.int .i64 0] n).toList):=by
 have hz : ∀ v ∈ (Builtin.zeroCells #[.int .i64 0,.int .i64 0] n).toList,v = .int .i64 0:=fun v hv => by
  unfold Builtin.zeroCells at hv
  simp only [Array.toList_map,List.mem_map] at hv
  obtain ⟨i, -,rfl⟩:=hv
  have : i % 2 = 0 ∨ i % 2 = 1:=by omega
  rcases this with h | h <;> simp [h]
 have hlen : (Builtin.zeroCells #[.int .i64 0,.int .i64 0] n).toList.length = n * 2:=by simp [Builtin.zeroCells]
 have hst:=run_storeCells_cells (P:=Tryz.prog) g (kk * 2) (Builtin.zeroCells #[.int .i64 0,.int .i64 0] n).toList 0 w (fun j hj => hr.isSome (by rw [hlen] at hj; show kk * 2 + 0 + j < cap * 2; omega)) (fun j _ => hr.frozen _) (fun v hv => by rw [hz v hv]; rfl)
 simp only [Nat.add_zero] at hst
 obtain ⟨m,rfl⟩ : ∃ m,n = m + 1:=⟨n - 1,by omega⟩
 have hv:=Tryz.zeroValue60
 simp [Builtin.clear_,run_underlying Tryz.underlying51,hv,Value.cells,hst]
set_option maxHeartbeats 3200000 in
set_option maxRecDepth 100000 in
theorem compact_any (base g cap : Nat) (l : List (Int × Int)) (W : World) (h : OwnE elE W base 60 (.slice (some ⟨g,0,none⟩) l.length cap) l) (hl : l.length ≤ 1000000) :
  Calls Tryz.prog 77 #[.slice (some ⟨g,0,none⟩) l.length cap] W (CompR base g cap l W):=by
 obtain ⟨hraw,hcap⟩:=h.raw
 have hrow:=OwnE.rowC h rfl
 have hgd : ∀ (op : BinOp) (a b : Operand) (x y : Int × Int) (w : World),(eqGuard op 60 a b (ev x) (ev y)).run Tryz.prog w = .ok () w:=GuardAt.agg (P:=Tryz.prog) (T:=60) (fun x : Int × Int => #[.int .i64 x.1,.int .i64 x.2]) (by kernel_rfl)
 have HG:=Lib.hid hgd
 have H:=Lib.hid (And.intro h (And.intro hraw hrow))
 clear h hraw hrow hgd
 by_cases h2 : l.length < 2
 ·have hd : decide ((l.length : Int) < 2) = true:=by simp; omega
  have HS:=Lib.hid (cpT_small h2)
  clear h2
  go_enter Tryz.func77,Tryz.ntmps77
  go_wp2_with fail
  go_ret
  exact ⟨l.length,rfl,by rw [HS.out],by rw [HS.out]; exact H.out.1,grownBy_refl _ _⟩
 have hd : decide ((l.length : Int) < 2) = false:=by simp; omega
 go_enter Tryz.func77,Tryz.ntmps77
 go_wp2_with fail
 have h2' : 2 ≤ l.length:=by omega
 clear h2 hd
 go_loopw [3,4,5] (fun x _ _ wr => ∃ k : Nat,1 ≤ k∧k ≤ l.length∧x = .int .i64 k∧Qt W wr∧Hid (∀ i,i < k→kpB l i = true)) (fun x _ _ _ => l.length - (intOf x).toNat)
 case atStart => exact ⟨1,by omega,by omega,rfl,Qt.refl _,fun i hi => by
  obtain rfl : i = 0:=by omega
  exact kpB_zero l⟩
 case round =>
  obtain ⟨k,hk1,hk,rfl,⟨n0,rfl⟩,hall⟩:=hrel
  by_cases hlt : k < l.length
  ·obtain ⟨m,rfl⟩ : ∃ m,k = m + 1:=⟨k - 1,by omega⟩
   obtain ⟨c1,c2⟩:=H.out.2.2 (m + 1) hlt
   obtain ⟨c3,c4⟩:=H.out.2.2 m (by omega)
   obtain ⟨x,hx⟩ : ∃ x,x = nth l (m + 1):=⟨_,rfl⟩
   obtain ⟨y,hy⟩ : ∃ y,y = nth l m:=⟨_,rfl⟩
   rw [← hx] at c1 c2
   rw [← hy] at c3 c4
   have HXY:=Lib.hid (And.intro hx hy)
   clear hx hy
   obtain ⟨x1,x2⟩:=x
   obtain ⟨y1,y2⟩:=y
   dsimp only at c1 c2 c3 c4
   rw [show ((m + 1 : Nat) : Int) = (m : Int) + 1 by omega]
   have hw : IntKind.i64.wrap (m : Int) = m:=IntWalk.i64_in _ (by omega)
   have hm1 : (m : Int) < (l.length : Int):=by omega
   have hm2 : (m : Int) + 1 < (l.length : Int):=by omega
   have hm3 : (0 : Int) ≤ (m : Int):=by omega
   have hm4 : (0 : Int) ≤ (m : Int) + 1:=by omega
   have hm5 : ((m : Int) + 1).toNat = m + 1:=by omega
   have hg1:=HG.out .eql (.tmp 19) (.tmp 24) (x1,x2) (y1,y2)
   by_cases hxy : (x1,x2) = (y1,y2)
   ·have he : ∀ w,(binOp .eql 60 (.agg #[.int .i64 x1,.int .i64 x2]) (.agg #[.int .i64 y1,.int .i64 y2])).run Tryz.prog w = .ok (.bool true) w:=fun w => by rw [edge_eql (x1,x2) (y1,y2) w,hxy]; simp
    have HK : Hid (kpB l (m + 1) = false):=Lib.hid (by rw [kpB_succ, ← HXY.out.1, ← HXY.out.2,hxy]; simp)
    clear hxy
    go_wp2_with fail
    go_quiet (fail)
    go_wp2_with fail
    obtain ⟨n2,hn2⟩ : ∃ n,n = l.length - (m + 1):=⟨_,rfl⟩
    obtain ⟨o2,ho2⟩ : ∃ n,n = (m + 1) * 2:=⟨_,rfl⟩
    obtain ⟨d2,hd2⟩ : ∃ n,n = cap - (m + 1):=⟨_,rfl⟩
    rw [← hn2, ← ho2, ← hd2]
    have HN:=Lib.hid (And.intro hn2 (And.intro ho2 hd2))
    have HLT:=Lib.hid hlt
    clear hn2 ho2 hd2 c1 c2 c3 c4 he hg1 hw hm1 hm2 hm3 hm4 hm5 hk1 hk hlt
    have hn2p : n2 ≤ d2:=by have h1:=HN.out; omega
    have hn2l : n2 ≤ 1000000:=by have h1:=HN.out; omega
    have hst:=And.intro (CI.start HLT.out hall.out HK.out) (And.intro H.out.2.1 (And.intro H.out.2.2 (grownBy_refl W (some g))))
    have HST:=Lib.hid hst
    clear hst
    have hq2 : ∀ {Z : World},Qt W Z→RawE elE Z base g cap 60∧RowC Z g l∧W.grownBy Z (some g):=fun {Z} hz => by
     obtain ⟨n9,rfl⟩:=hz
     exact ⟨HST.out.2.1,HST.out.2.2.1,⟨rfl,rfl,rfl,Nat.le_refl _,fun _ _ _ => rfl⟩⟩
    have HQ2:=Lib.hid (fun Z => @hq2 Z)
    clear hq2
    go_loopw [3,5] (fun x y wr => ∃ (kk k2 : Nat) (r : List (Int × Int)),1 ≤ k2∧k2 ≤ n2∧x = .int .i64 kk∧y = .int .i64 k2∧Hid (CI l (m + 1 + k2) kk r∧RawE elE wr base g cap 60∧RowC wr g r∧W.grownBy wr (some g))) (fun _ y _ => n2 - (intOf y).toNat)
    case atStart => exact ⟨m + 1,1,l,by omega,by have h1:=HN.out; have h2:=HLT.out; omega,by go_num,rfl,HST.out.1,HQ2.out _ (by first | exact Qt.refl _ | exact Qt.drewN _ _ | exact (Qt.drewN _ _).trans (Qt.drewN _ _) | exact ((Qt.drewN _ _).trans (Qt.drewN _ _)).trans (Qt.drewN _ _) | exact Qt.drew _ | exact (Qt.drewN _ _).trans (Qt.drew _))⟩
    case round =>
     clear HST
     obtain ⟨kk,k2,r,hk21,hk2,rfl,rfl,hh⟩:=hrel
     have hkl:=hh.out.1.lt
     have hrl:=hh.out.1.len
     have hnl : l.length = m + 1 + n2:=by have h1:=HN.out; have h2:=HLT.out; omega
     by_cases hlt2 : k2 < n2
     ·obtain ⟨p,rfl⟩ : ∃ p,k2 = p + 1:=⟨k2 - 1,by omega⟩
      obtain ⟨c1,c2⟩:=hh.out.2.2.1 (m + 1 + (p + 1)) (by omega)
      obtain ⟨c3,c4⟩:=hh.out.2.2.1 (m + 1 + p) (by omega)
      obtain ⟨w1,w2⟩:=hh.out.2.2.1 kk (by omega)
      have f1:=hh.out.2.1.frozen (kk * 2)
      have f2:=hh.out.2.1.frozen (kk * 2 + 1)
      rw [hh.out.1.rest _ (by omega) (by omega)] at c1 c2
      rw [hh.out.1.rest _ (by omega) (by omega)] at c3 c4
      rw [show (m + 1 + (p + 1)) * 2 = o2 + (p + 1) * 2 by rw [HN.out.2.1]; omega] at c1 c2
      rw [show (m + 1 + p) * 2 = o2 + p * 2 by rw [HN.out.2.1]; omega] at c3 c4
      obtain ⟨x,hx⟩ : ∃ x,x = nth l (m + 1 + (p + 1)):=⟨_,rfl⟩
      obtain ⟨y,hy⟩ : ∃ y,y = nth l (m + 1 + p):=⟨_,rfl⟩
      obtain ⟨z,hz⟩ : ∃ z,z = nth r kk:=⟨_,rfl⟩
      rw [← hx] at c1 c2
      rw [← hy] at c3 c4
      rw [← hz] at w1 w2
      have HXY2:=Lib.hid (And.intro hx hy)
      have HKL:=Lib.hid (And.intro hkl (And.intro hrl hnl))
      clear hx hy hz hkl hrl hnl
      obtain ⟨x1,x2⟩:=x
      obtain ⟨y1,y2⟩:=y
      dsimp only at c1 c2 c3 c4
      rw [show ((p + 1 : Nat) : Int) = (p : Int) + 1 by omega]
      have hw : IntKind.i64.wrap (p : Int) = p:=IntWalk.i64_in _ (by omega)
      have hm1 : (p : Int) < (n2 : Int):=by omega
      have hm2 : (p : Int) + 1 < (n2 : Int):=by omega
      have hm3 : (0 : Int) ≤ (p : Int):=by omega
      have hm4 : (0 : Int) ≤ (p : Int) + 1:=by omega
      have hm5 : ((p : Int) + 1).toNat = p + 1:=by omega
      have hk9 : (kk : Int) < (l.length : Int):=by have h1:=HKL.out; omega
      have hg1:=HG.out .neq (.tmp 38) (.tmp 43) (x1,x2) (y1,y2)
      by_cases hxy : (x1,x2) = (y1,y2)
      ·have he : ∀ w,(binOp .neq 60 (.agg #[.int .i64 x1,.int .i64 x2]) (.agg #[.int .i64 y1,.int .i64 y2])).run Tryz.prog w = .ok (.bool false) w:=fun w => by rw [edge_neq (x1,x2) (y1,y2) w,hxy]; simp
       have HK2 : Hid (kpB l (m + 1 + (p + 1)) = false):=Lib.hid (by rw [show m + 1 + (p + 1) = m + 1 + p + 1 by omega,kpB_succ,show m + 1 + p + 1 = m + 1 + (p + 1) by omega, ← HXY2.out.1, ← HXY2.out.2,hxy]; simp)
       clear hxy
       go_wp2_with fail
       go_quiet (fail)
       go_wp2_with fail
       go_roundw
       case rel => exact ⟨kk,p + 2,r,by omega,by omega,rfl,by go_num,hh.out.1.skip HK2.out,hh.out.2.1,hh.out.2.2.1,hh.out.2.2.2.drewN' _⟩
       case measure => simp [intOf]; omega
      ·have he : ∀ w,(binOp .neq 60 (.agg #[.int .i64 x1,.int .i64 x2]) (.agg #[.int .i64 y1,.int .i64 y2])).run Tryz.prog w = .ok (.bool true) w:=fun w => by rw [edge_neq (x1,x2) (y1,y2) w,decide_eq_true hxy]
       have HK2 : Hid (kpB l (m + 1 + (p + 1)) = true):=Lib.hid (by rw [show m + 1 + (p + 1) = m + 1 + p + 1 by omega,kpB_succ,show m + 1 + p + 1 = m + 1 + (p + 1) by omega, ← HXY2.out.1, ← HXY2.out.2,decide_eq_true_eq]; exact hxy)
       clear hxy
       go_wp2_with fail
       go_quiet (fail)
       go_wp2_with fail
       go_roundw
       case rel =>
        have h1:=HKL.out
        exact ⟨kk + 1,p + 2,r.set kk (x1,x2),by omega,by omega,by go_num,by go_num,by rw [HXY2.out.1]; exact hh.out.1.keep HK2.out (by omega),((hh.out.2.1.drewN _).setCell _ _ rfl).setCell _ _ rfl,RowC.set (w:=wr.drewN _) hh.out.2.2.1 (by omega) x1 x2,grownBy_trans (grownBy_trans (hh.out.2.2.2.drewN' _) (grownBy_setCell _ ⟨g,kk * 2,none⟩ _)) (grownBy_setCell _ ⟨g,kk * 2 + 1,none⟩ _)⟩
       case measure => simp [intOf]; omega
     ·obtain rfl : k2 = n2:=by omega
      have hkl2 : kk < l.length:=by omega
      have hcl : ∀ ty c,(Builtin.clear_ #[51] ty #[.slice (some ⟨g,kk * 2,none⟩) (l.length - kk) c]).run Tryz.prog wr = .ok (.tuple #[]) (wr.setCells g (kk * 2) (Builtin.zeroCells #[.int .i64 0,.int .i64 0] (l.length - kk)).toList):=fun ty c => clear_edges hh.out.2.1 (by omega) (by omega) c ty
      have HF:=Lib.hid (And.intro hkl2 hnl)
      clear hkl hrl hnl
      go_wp2_with fail
      go_ret
      obtain ⟨h1,h2,h3⟩:=setCells_kept kk r (Builtin.zeroCells #[.int .i64 0,.int .i64 0] (l.length - kk)).toList (kk * 2) wr (Nat.le_refl _) hh.out.2.1 (fun i hi => hh.out.2.2.1 i (by have:=hh.out.1.len; have:=HF.out; omega))
      have hci:=hh.out.1
      rw [← HF.out.2] at hci
      refine ⟨kk,rfl,hci.kl,RowC.own (fun i hi => ?_) h1 (by have:=HF.out; omega) hci.kl.symm,grownBy_trans hh.out.2.2.2 h3⟩
      rw [← hci.kl] at hi
      rw [hci.get hi]
      exact h2 i hi
   ·have he : ∀ w,(binOp .eql 60 (.agg #[.int .i64 x1,.int .i64 x2]) (.agg #[.int .i64 y1,.int .i64 y2])).run Tryz.prog w = .ok (.bool false) w:=fun w => by rw [edge_eql (x1,x2) (y1,y2) w]; simp only [hxy]; rfl
    have HK : Hid (kpB l (m + 1) = true):=Lib.hid (by rw [kpB_succ, ← HXY.out.1, ← HXY.out.2,decide_eq_true_eq]; exact hxy)
    clear hxy
    go_wp2_with fail
    go_quiet (fail)
    go_wp2_with fail
    go_roundw
    case rel => exact ⟨m + 2,by omega,by omega,by go_num,(by first | exact Qt.refl _ | exact Qt.drewN _ _ | exact (Qt.drewN _ _).trans (Qt.drewN _ _) | exact ((Qt.drewN _ _).trans (Qt.drewN _ _)).trans (Qt.drewN _ _) | exact Qt.drew _ | exact (Qt.drewN _ _).trans (Qt.drew _)),fun i hi => by
     by_cases e : i = m + 1
     ·subst e; exact HK.out
     ·exact hall.out i (by omega)⟩
    case measure => simp [intOf]; omega
  ·obtain rfl : k = l.length:=by omega
   have HL : Hid (cpT l l.length = l):=Lib.hid (by rw [cpT_all (Nat.le_refl _) hall.out,List.take_length])
   go_wp2_with fail
   go_ret
   exact ⟨l.length,rfl,by rw [HL.out],by rw [HL.out]; exact own_wide H.out.1 (grownBy_qt (by first | exact Qt.refl _ | exact Qt.drewN _ _ | exact (Qt.drewN _ _).trans (Qt.drewN _ _) | exact ((Qt.drewN _ _).trans (Qt.drewN _ _)).trans (Qt.drewN _ _) | exact Qt.drew _ | exact (Qt.drewN _ _).trans (Qt.drew _))),grownBy_widen (grownBy_qt (by first | exact Qt.refl _ | exact Qt.drewN _ _ | exact (Qt.drewN _ _).trans (Qt.drewN _ _) | exact ((Qt.drewN _ _).trans (Qt.drewN _ _)).trans (Qt.drewN _ _) | exact Qt.drew _ | exact (Qt.drewN _ _).trans (Qt.drew _)))⟩
end Go.Proofs.YtgblfjccccdidaaGreat
end
section
namespace Go.Gra
open Go.Sort Go.Proofs
theorem ltE (x y : Int × Int) : ltOf cmpE x y = decide (eLt x y):=by
 unfold ltOf
 by_cases h : eLt x y
 ·simp [h,(cmpE_neg x y).2 h]
 ·simp [h,(cmpE_nonneg x y).2 h]
theorem swoE : SWO (ltOf cmpE) where
 irrefl x:=by rw [ltE]; simpa using eLt_irrefl x
 trans x y z h1 h2:=by rw [ltE] at *; simp only [decide_eq_true_eq] at *; exact eLt_trans h1 h2
 ntrans x y z h1 h2:=by rw [ltE] at *; simp only [decide_eq_false_iff_not] at *; unfold eLt at *; omega
end Go.Gra
namespace Go.Proofs.YtgblfjccccdidaaGreat
open Go.RowKit Go.Dfl Go.Gra Go.Sort
def SortR (base g cap : Nat) (l : List (Int × Int)) (W : World) (e : Ending) (W' : World) : Prop:=∃ l' : List (Int × Int),e = .returned (.tuple #[])∧l'.length = l.length∧l'.Perm l∧(∀ i j,i < j→j < l'.length→¬ eLt (nth l' j) (nth l' i))∧OwnE elE W' base 60 (.slice (some ⟨g,0,none⟩) l.length cap) l'∧W.grownBy W' (some g)
set_option maxHeartbeats 1600000 in
theorem sort_any (base g cap : Nat) (l : List (Int × Int)) (W : World) (h : OwnE elE W base 60 (.slice (some ⟨g,0,none⟩) l.length cap) l) (hl : l.length ≤ 1000000) :
  Calls Tryz.prog 75 #[.slice (some ⟨g,0,none⟩) l.length cap,.func (.func 76) #[] #[]] W (SortR base g cap l W):=by
 have eg : ∀ args w,(callFunc 76 args).run Tryz.prog w = .ok (.enter 76 args) w:=enters_of Tryz.func76 (by kernel_rfl) rfl
 have hH:=OwnE.holdsK h rfl
 have hblk : g < W.heap.size:=by
  obtain ⟨⟨cur, -,hh, -⟩, -⟩:=h.raw
  exact (Array.getElem?_eq_some_iff.1 hh).1
 have hcon:=AnyQ.slices_SortFunc sortE 2 Tryz.isAgg60 Tryz.sizeOf60 elE.c (fun _ => rfl) elE.one cmpE swoE 76 #[] g 0 cap l.toArray W eg (fun _ _ _ _ x y => compare_any x y _) hH hblk (by simp; omega)
 change Calls Tryz.prog 75 _ _ _ at hcon
 have hs0 : l.toArray.size = l.length:=by simp
 rw [hs0] at hcon
 refine hcon.mono ?_
 rintro e W' ⟨rfl,d',n,os,hp,hs,rfl⟩
 obtain ⟨p1, -,p3⟩:=hp
 have hd : d'.size = l.length:=by rw [p1,hs0]
 obtain ⟨o1,o2⟩:=OwnE.sortK h rfl d' hd n os
 have hperm : d'.toList.Perm l:=by
  have e1 : (d'.extract 0 l.length) = d':=by rw [← hd]; exact Array.extract_size
  have e2 : (l.toArray.extract 0 l.length) = l.toArray:=by rw [← hs0]; exact Array.extract_size
  rw [e1,e2] at p3
  exact p3
 refine ⟨d'.toList,rfl,hperm.length_eq,hperm,fun i j hij hj => ?_,o1,o2⟩
 have hjl : j < d'.size:=by simpa using hj
 have h1:=hs i j (Nat.zero_le _) hij (by rw [← hd]; exact hjl)
 rw [ltE,decide_eq_false_iff_not] at h1
 have e1 : d'[j]! = nth d'.toList j:=by rw [getElem!_pos d' j hjl,nth_eq _ _ hj]; simp
 have e2 : d'[i]! = nth d'.toList i:=by rw [getElem!_pos d' i (by omega),nth_eq _ _ (by simp; omega)]; simp
 rw [e1,e2] at h1
 exact h1
theorem sort_nil (fv : Value) (c : Nat) (W : World) :
  Calls Tryz.prog 75 #[.slice none 0 c,fv] W fun e W' => e = .returned (.tuple #[])∧W' = W:=AnyF.slices_SortFunc_none sortE none c fv W
def CloneR (l : List (Int × Int)) (W : World) (e : Ending) (W' : World) : Prop:=(l = []∧e = .returned (.slice none 0 0)∧W' = W) ∨ ∃ g cap,e = .returned (.slice (some ⟨g,0,none⟩) l.length cap)∧OwnE elE W' W.heap.size 60 (.slice (some ⟨g,0,none⟩) l.length cap) l∧Below W.heap.size W W'
set_option maxHeartbeats 1600000 in
theorem clone_any (v : Value) (l : List (Int × Int)) (W : World) (h : Pairs W v l) (hl : l.length ≤ 1000000) : Calls Tryz.prog 74 #[v] W (CloneR l W):=by
 obtain ⟨a,cap,rfl,hc,hm,h3⟩:=h
 cases a with
 | none =>
   have h0 : l = []:=by
    cases l with
    | nil => rfl
    | cons x l => have:=(h3 0 (by simp)).1; cases this
   subst h0
   refine (AnyE.slices_Clone_nil cloneE _ cap W).mono ?_
   rintro e W' ⟨rfl,rfl⟩
   exact .inl ⟨rfl,rfl,rfl⟩
 | some ad =>
   have hcl : ∀ j u,(l.flatMap elE.c)[j]? = some u→W.cell? ⟨ad.block,ad.off + j,none⟩ = some u:=fun j u hj => by
    have hjl : j < (l.flatMap elE.c).length:=(List.getElem?_eq_some_iff.1 hj).1
    rw [flat_len] at hjl
    have hjl2 : j < l.length * 2:=hjl
    obtain ⟨-, -,h4⟩:=h3 (j / 2) (by omega)
    have h5:=h4 (j % 2) (by omega)
    have hf:=flat_get elE l (j / 2) (j % 2) (by omega) (by show j % 2 < 2; omega)
    have e1 : j / 2 * elE.sz + j % 2 = j:=by show j / 2 * 2 + j % 2 = j; omega
    rw [e1,hj] at hf
    have e2 : ofs (some ad) + j / 2 * 2 + j % 2 = ad.off + j:=by show ad.off + j / 2 * 2 + j % 2 = _; omega
    rw [e2] at h5
    have e3 : blk (some ad) = ad.block:=rfl
    rw [e3] at h5
    rw [h5,hf]
    rcases (by omega : j % 2 = 0 ∨ j % 2 = 1) with h | h <;> rw [h] <;> rfl
   by_cases hsp : l = []
   ·subst hsp
    obtain ⟨i,hi,hz0,hz1,hz2⟩:=sEdge.info
    have hap : ∀ (ty : TypeId) (w : World) (g : Nat),(Builtin.append_ #[51,51] ty #[.slice (some ⟨g,0,none⟩) 0 0,.slice (some ad) 0 cap]).run Tryz.prog w = .ok (.slice (some ⟨g,0,none⟩) 0 0) w:=fun ty w g => by
     simp [Builtin.append_,run_underlying Tryz.underlying51,sizeOf,typeInfo,hi,Builtin.lenOf,Builtin.firstCells,storeCells,loadCells,loadCellsFrom]
    have hnil : ∀ (w : World) (a : Option Addr) (n c : Nat),(binOp .eql 51 (.slice a n c) (.slice none 0 0)).run Tryz.prog w = .ok (.bool a.isNone) w:=fun w a n c => Lib.run_eql_slice_nil w _ _ a n c 0 0 Tryz.underlying51
    have ho : OwnE elE (W.alloc (.cells #[] 60)) W.heap.size 60 (.slice (some ⟨W.heap.size,0,none⟩) 0 0) []:=World.ownsRow_lit (size:=2) W #[] 0 (Nat.le_refl _) (by unfold maxLen; omega) rfl
    have HO:=Lib.hid ho
    clear ho hcl h3 hm
    rw [List.length_nil]
    go_enter Tryz.func74,Tryz.ntmps74
    go_wp2_with fail
    go_ret
    exact .inr ⟨W.heap.size,0,rfl,HO.out,(Below.refl _ _).alloc (Nat.le_refl _) _⟩
   ·have had : ad = ⟨ad.block,ad.off,none⟩:=by
     have:=(h3 0 (List.length_pos_iff.2 hsp)).1
     exact Option.some.inj this
    rw [had]
    obtain ⟨i0,hi,hz0,hz1,hz2⟩:=sEdge.info
    refine (AnyE.slices_Clone cloneE i0 (.agg #[.int .i64 0,.int .i64 0]) 2 16 hi hz0 hz1 hz2 rfl (by omega) Tryz.sizeOf60 ad.block ad.off l.length cap (l.flatMap elE.c) W (flat_len elE l) (by omega) (by omega) hcl (fun u hu => ?_)).mono ?_
    ·obtain ⟨x, -,hx⟩:=List.mem_flatMap.1 hu
     exact elE.one x u hx
    ·rintro e W' ⟨v',rfl,hown,hne,hb⟩
     obtain ⟨g,c,rfl⟩ : ∃ g c,v' = .slice (some ⟨g,0,none⟩) l.length c:=by
      rcases hown.2 with ⟨h1, -⟩ | ⟨g,c,cur,h1, -⟩
      ·exact absurd h1 hne
      ·exact ⟨g,c,h1⟩
     exact .inr ⟨g,c,rfl,hown,hb⟩
end Go.Proofs.YtgblfjccccdidaaGreat
end
section
namespace Go.Gra
def MkL (n : Int) (es : List (Int × Int)) (g : G) (code : Int) : Prop :=
 (n < 0∧code = 4∧g = ⟨0, []⟩) ∨ (8192 < n∧code = 3∧g = ⟨0, []⟩) ∨ ((0 ≤ n∧n ≤ 8192)∧(∃ e ∈ es,inB n e = false)∧code = 4∧g = ⟨0, []⟩) ∨
 ((0 ≤ n∧n ≤ 8192)∧(∀ e ∈ es,inB n e = true)∧code = 0∧g.n = n∧SortOf es g.es)
end Go.Gra
namespace Go.Proofs.YtgblfjccccdidaaGreat
open Go.RowKit Go.Dfl Go.Gra
def GZ (W : World) (b : Nat) : Prop:=W.heap[b]? = some (.cells #[.int .i64 0,.slice none 0 0] 71)
theorem GZ.grown {W W' : World} {b : Nat} {row : Option Nat} (h : GZ W b) (hg : W.grownBy W' row) (hne : some b ≠ row) : GZ W' b:=(hg.block b (Array.getElem?_eq_some_iff.1 h).1 hne).trans h
theorem GZ.below {W W' : World} {b : Nat} (h : GZ W b) (hb : Below W.heap.size W W') : GZ W' b:=h.grown (grownBy_below hb) (by simp)
theorem GZ.lt {W : World} {b : Nat} (h : GZ W b) : b < W.heap.size:=(Array.getElem?_eq_some_iff.1 h).1
theorem GZ.rd {W : World} {b : Nat} (h : GZ W b) : (W.cell? ⟨b,0,none⟩ = some (.int .i64 0)∧W.cell? ⟨b,1,none⟩ = some (.slice none 0 0))∧W.frozen? ⟨b,0,none⟩ = false∧W.frozen? ⟨b,1,none⟩ = false:=by
 have h' : W.heap[b]? = some (.cells #[.int .i64 0,.slice none 0 0] 71):=h
 exact ⟨⟨by simp [World.cell?,h'],by simp [World.cell?,h']⟩,by simp [World.frozen?,h'],by simp [World.frozen?,h']⟩
theorem below2s {B : Nat} {W Z : World} (h : Below B W Z) {b : Nat} (hb : B ≤ b) (x y : Value) : Below B W ((Z.setCell ⟨b,0,none⟩ x).setCell ⟨b,1,none⟩ y) :=
 (h.setCell (show B ≤ (⟨b,0,none⟩ : Addr).block from hb) _).setCell (show B ≤ (⟨b,1,none⟩ : Addr).block from hb) _
theorem pairs_nil (W : World) : Pairs W (.slice none 0 0) []:=⟨none,0,rfl,by simp,by unfold maxLen; omega,fun i hi => by simp at hi⟩
theorem own_pairs {W : World} {base : Nat} {e : TypeId} {v : Value} {l : List (Int × Int)} (h : OwnE elE W base e v l) : Pairs W v l:=by
 obtain ⟨a,c,e1,h1,h2,h3⟩:=Go.Dfl.OwnE.sliced h
 refine ⟨a,c,e1,h1,h2,fun i hi => ⟨(h3 i hi).1,(h3 i hi).2.1,fun j hj => ?_⟩⟩
 have h4:=(h3 i hi).2.2 j hj
 rw [show elE.sz = 2 from rfl] at h4
 rw [h4]
 rcases (by omega : j = 0 ∨ j = 1) with rfl | rfl <;> rfl
def MakeR (n : Int) (es : List (Int × Int)) (W : World) (e : Ending) (W' : World) : Prop:=∃ a c g code,e = .returned (.tuple #[GV g (.slice a g.es.length c),.int .i64 code])∧Pairs W' (.slice a g.es.length c) g.es∧MkL n es g code∧Below W.heap.size W W'
theorem OwnE.mono' {W : World} {base base' : Nat} {e : TypeId} {v : Value} {l : List (Int × Int)} (h : OwnE elE W base e v l) (hb : base' ≤ base) : OwnE elE W base' e v l:=by
 obtain ⟨h1,h2 | ⟨g,cap,cur,hv,hg,r⟩⟩:=h
 ·exact ⟨h1,.inl h2⟩
 ·exact ⟨h1,.inr ⟨g,cap,cur,hv,by omega,r⟩⟩
set_option maxHeartbeats 3200000 in
set_option maxRecDepth 100000 in
theorem gMake_any (n : Int) (cv : Value) (es : List (Int × Int)) (W : World) (h : Pairs W cv es) (hl : es.length ≤ 32768) : Calls Tryz.prog 46 #[.int .i64 n,cv] W (MakeR n es W):=by
 obtain ⟨ca,cc,rfl,hlen,hci,hcc⟩:=pairs_rd h
 have hz0 : GZ (W.alloc (.cells #[.int .i64 0,.slice none 0 0] 71)) W.heap.size:=heap_alloc_new _ _
 have hb0 : Below W.heap.size W (W.alloc (.cells #[.int .i64 0,.slice none 0 0] 71)):=(Below.refl _ _).alloc (Nat.le_refl _) _
 have H0:=Lib.hid (And.intro hz0 (And.intro hb0 (And.intro hcc h)))
 clear h hcc hz0 hb0
 go_enter Tryz.func46,Tryz.ntmps46
 go_upto_region 1 with fail
 refine gen_code (fun Z => GZ Z W.heap.size∧Below W.heap.size W Z) ⟨H0.out.1,H0.out.2.1⟩ ?_
 rintro Z0 hz
 obtain ⟨br,hbr⟩ : ∃ b,b = W.heap.size:=⟨_,rfl⟩
 have HBR : Hid (br = W.heap.size∧W.heap.size ≤ br):=Lib.hid ⟨hbr,Nat.le_of_eq hbr.symm⟩
 have HZ : Hid (GZ Z0 br∧Below W.heap.size W Z0):=Lib.hid (by rw [hbr]; exact hz)
 rw [← hbr]
 clear hz hbr
 by_cases h1 : n < 0
 ·have hd : decide (n < 0) = true:=by simpa using h1
  obtain ⟨⟨z0,z1⟩,zf0,zf1⟩:=HZ.out.1.rd
  have HGZ:=Lib.hid HZ.out.1
  go_wp2_with fail
  refine bodyPost_ret (v:=.tuple #[.agg #[.int .i64 0,.slice none 0 0],.int .i64 4]) (by rw [results_cell_tmp rfl]; go_simp; try rfl) rfl ?_
  exact ⟨none,0,⟨0, []⟩,4,rfl,pairs_nil _,(.inl ⟨h1,rfl,rfl⟩),below2s HZ.out.2 HBR.out.2 _ _⟩
 have hd1 : decide (n < 0) = false:=by simpa using h1
 by_cases h2 : 8192 < n
 ·have hd : decide (8192 < n) = true:=by simpa using h2
  obtain ⟨⟨z0,z1⟩,zf0,zf1⟩:=HZ.out.1.rd
  have HGZ:=Lib.hid HZ.out.1
  go_wp2_with fail
  refine bodyPost_ret (v:=.tuple #[.agg #[.int .i64 0,.slice none 0 0],.int .i64 3]) (by rw [results_cell_tmp rfl]; go_simp; try rfl) rfl ?_
  exact ⟨none,0,⟨0, []⟩,3,rfl,pairs_nil _,(.inr (.inl ⟨h2,rfl,rfl⟩)),below2s HZ.out.2 HBR.out.2 _ _⟩
 have hd2 : decide (8192 < n) = false:=by simpa using h2
 have hn0 : 0 ≤ n∧n ≤ 8192:=by omega
 have HN0:=Lib.hid hn0
 clear h1 h2 hn0
 go_wp2_with fail
 clear hd1 hd2
 go_loopw [7,17] (fun _ x wr => ∃ k : Nat,k ≤ es.length∧x = .int .i64 k∧Hid (GZ wr br∧Below br W wr∧∀ i,i < k→inB n (nth es i) = true)) (fun _ x _ => es.length - (intOf x).toNat)
 case atStart => exact ⟨0,by omega,rfl,HZ.out.1,by rw [HBR.out.1]; exact HZ.out.2,fun i hi => by omega⟩
 case round =>
  obtain ⟨k,hk,rfl,hh⟩:=hrel
  have hbl:=hh.out.1.lt
  have hbW : Below W.heap.size W wr:=by rw [← HBR.out.1]; exact hh.out.2.1
  by_cases hlt : k < es.length
  ·obtain ⟨p0,p1⟩:=(H0.out.2.2.1 k hlt).2 wr hbW
   obtain ⟨e,he⟩ : ∃ e,e = nth es k:=⟨_,rfl⟩
   rw [← he] at p0 p1
   have HE:=Lib.hid he
   have HBW:=Lib.hid hbW
   clear he hbW
   obtain ⟨x,y⟩:=e
   dsimp only at p0 p1
   have hg2:=hh.out.1.grown (grownBy_alloc wr (.cells #[.int .i64 x,.int .i64 y] 60)) (by simp)
   have hb2:=HBW.out.alloc HBW.out.size (.cells #[.int .i64 x,.int .i64 y] 60)
   have HB2:=Lib.hid (And.intro hg2 hb2)
   clear hg2 hb2
   cases hx : nodeB n x
   ·obtain ⟨⟨z0,z1⟩,zf0,zf1⟩:=hh.out.1.rd
    have hbn : br ≠ wr.heap.size:=by omega
    have HX : Hid (∃ e ∈ es,inB n e = false):=Lib.hid ⟨nth es k,nth_mem _ _ hlt,by rw [← HE.out]; simp [inB,hx]⟩
    go_wp2_with (go_at_call 73; refine (node_any _ _ _).mono ?_; rintro e w' ⟨rfl,hw⟩; rw [hw]; clear hw w')
    refine bodyPost_ret (v:=.tuple #[.agg #[.int .i64 0,.slice none 0 0],.int .i64 4]) (by rw [results_cell_tmp rfl]; go_simp; try rfl) rfl ?_
    exact ⟨none,0,⟨0, []⟩,4,rfl,pairs_nil _,.inr (.inr (.inl ⟨HN0.out,HX.out,rfl,rfl⟩)),(below2s HBW.out HBR.out.2 _ _).alloc (below2s HBW.out HBR.out.2 _ _).size _⟩
   ·cases hy : nodeB n y
    ·obtain ⟨⟨z0,z1⟩,zf0,zf1⟩:=hh.out.1.rd
     have hbn : br ≠ wr.heap.size:=by omega
     have HX : Hid (∃ e ∈ es,inB n e = false):=Lib.hid ⟨nth es k,nth_mem _ _ hlt,by rw [← HE.out]; simp [inB,hx,hy]⟩
     go_wp2_with (go_at_call 73; refine (node_any _ _ _).mono ?_; rintro e w' ⟨rfl,hw⟩; rw [hw]; clear hw w')
     refine bodyPost_ret (v:=.tuple #[.agg #[.int .i64 0,.slice none 0 0],.int .i64 4]) (by rw [results_cell_tmp rfl]; go_simp; try rfl) rfl ?_
     exact ⟨none,0,⟨0, []⟩,4,rfl,pairs_nil _,.inr (.inr (.inl ⟨HN0.out,HX.out,rfl,rfl⟩)),(below2s HBW.out HBR.out.2 _ _).alloc (below2s HBW.out HBR.out.2 _ _).size _⟩
    ·have HX : Hid (inB n (nth es k) = true):=Lib.hid (by rw [← HE.out]; simp [inB,hx,hy])
     go_wp2_with (go_at_call 73; refine (node_any _ _ _).mono ?_; rintro e w' ⟨rfl,hw⟩; rw [hw]; clear hw w')
     go_roundw
     case rel => exact ⟨k + 1,by omega,by go_num,HB2.out.1,by have h9:=HB2.out.2; rw [← HBR.out.1] at h9; exact h9,fun i hi => by
      by_cases e : i = k
      ·subst e; exact HX.out
      ·exact hh.out.2.2 i (by omega)⟩
     case measure => simp [intOf]; omega
  ·obtain rfl : k = es.length:=by omega
   have hin : ∀ e ∈ es,inB n e = true:=fun e he => by
    obtain ⟨i,hi,rfl⟩:=mem_nth he
    exact hh.out.2.2 i hi
   have HW:=Lib.hid (And.intro hh.out.1 (And.intro hbW hin))
   clear hh hbW hin hbl HZ
   go_wp2_with fail
   refine (clone_any _ es _ (H0.out.2.2.2.below HW.out.2.1) (by omega)).mono ?_
   rintro e W2 (⟨rfl,rfl,rfl⟩ | ⟨g,cap,rfl,ho,hb⟩)
   ·have hs : SortOf [] []:=⟨List.Pairwise.nil,fun _ => Iff.rfl⟩
    go_wp2_with fail
    refine (sort_nil _ _ _).mono ?_
    rintro e W3 ⟨rfl,hw3⟩
    rw [hw3]
    clear hw3 W3
    obtain ⟨⟨z0,z1⟩,zf0,zf1⟩:=HW.out.1.rd
    go_wp2_with go_in
    refine bodyPost_ret (v:=.tuple #[.agg #[.int .i64 n,.slice none 0 0],.int .i64 0]) (by rw [results_cell_tmp rfl]; go_simp; try rfl) rfl ?_
    exact ⟨none,0,⟨n, []⟩,0,rfl,pairs_nil _,.inr (.inr (.inr ⟨HN0.out,HW.out.2.2,rfl,rfl,hs⟩)),below2s HW.out.2.1 HBR.out.2 _ _⟩
   ·have hbr2:=HW.out.1.lt
    have H2:=Lib.hid (And.intro ho (And.intro (HW.out.1.below hb) (HW.out.2.1.trans (hb.mono HW.out.2.1.size))))
    have hsz : br + 1 ≤ wr.heap.size:=hbr2
    have HSZ:=Lib.hid hsz
    clear ho hb hbr2 hsz
    go_wp2_with fail
    refine (sort_any (br + 1) g cap es _ (OwnE.mono' H2.out.1 HSZ.out) (by omega)).mono ?_
    rintro e W3 ⟨l',rfl,hl',hm',hs',o3,g3⟩
    rw [← hl'] at o3 ⊢
    have hgb : br + 1 ≤ g:=(OwnE.lt o3 g rfl).1
    have hz3:=H2.out.2.1.grown g3 (fun e => by have e2:=Option.some.inj e; omega)
    have hb3 : Below W.heap.size W W3:=H2.out.2.2.grown g3 H2.out.2.2.size (fun k e => by have e2:=Option.some.inj e; have:=HBR.out.2; omega)
    have H3:=Lib.hid (And.intro o3 (And.intro hz3 (And.intro hb3 (And.intro hm' (And.intro hs' (And.intro hl' hgb))))))
    have hl3 : l'.length ≤ 32768:=by rw [hl']; exact hl
    clear o3 g3 hz3 hb3 hm' hs' hl' hgb
    go_wp2_with fail
    refine (compact_any (br + 1) g cap l' _ H3.out.1 (by omega)).mono ?_
    rintro e W4 ⟨k,rfl,hk,o4,g4⟩
    have hz4:=H3.out.2.1.grown g4 (fun e => by have e2:=Option.some.inj e; have:=H3.out.2.2.2.2.2.2; omega)
    have hb4 : Below W.heap.size W W4:=H3.out.2.2.1.grown g4 H3.out.2.2.1.size (fun k e => by have e2:=Option.some.inj e; have:=HBR.out.2; have:=H3.out.2.2.2.2.2.2; omega)
    have hso : SortOf es (cpT l' l'.length):=by
     have h1:=sortOf_cp H3.out.2.2.2.2.1
     exact ⟨h1.srt,fun x => by rw [h1.mem,H3.out.2.2.2.1.mem_iff]⟩
    have hkl : k ≤ 32768:=by rw [hk]; exact Nat.le_trans (cpT_len _ _) hl3
    have hd9 : decide ((32768 : Int) < (k : Int)) = false:=by simp; omega
    obtain ⟨⟨z0,z1⟩,zf0,zf1⟩:=hz4.rd
    have H4:=Lib.hid (And.intro o4 (And.intro hb4 (And.intro hso (And.intro hk H3.out.2.2.2.2.2.2))))
    clear o4 g4 hz4 hb4 hso hk hkl H3
    go_wp2_with fail
    refine bodyPost_ret (v:=.tuple #[.agg #[.int .i64 n,.slice (some ⟨g,0,none⟩) k cap],.int .i64 0]) (by rw [results_cell_tmp rfl]; go_simp; try rfl) rfl ?_
    have gf:=grownBy_trans (grownBy_setCell W4 ⟨br,0,none⟩ (.int .i64 n)) (grownBy_setCell _ ⟨br,1,none⟩ (.slice (some ⟨g,0,none⟩) k cap))
    have o5:=OwnE.grown H4.out.1 gf (.inr fun e => by have e2 : g = br:=Option.some.inj e; have:=H4.out.2.2.2.2; omega)
    refine ⟨some ⟨g,0,none⟩,cap,⟨n,cpT l' l'.length⟩,0, ?_, ?_,.inr (.inr (.inr ⟨HN0.out,HW.out.2.2,rfl,rfl,H4.out.2.2.1⟩)),below2s H4.out.2.1 HBR.out.2 _ _⟩
    ·unfold GV; dsimp only; rw [← H4.out.2.2.2.1]
    ·show Pairs _ (.slice (some ⟨g,0,none⟩) (cpT l' l'.length).length cap) _
     rw [← H4.out.2.2.2.1]; exact own_pairs o5
end Go.Proofs.YtgblfjccccdidaaGreat
end
section
namespace Go.Gra
open Go.Dfl (nth nth_mem mem_nth nth_eq nth_ext)
def suc (es : List (Int × Int)) (v : Nat) : List Nat:=(es.filter fun e => decide (e.1 = (v : Int))).map fun e => e.2.toNat
theorem mem_suc {es : List (Int × Int)} {v x : Nat} : x ∈ suc es v ↔ ∃ e ∈ es,e.1 = (v : Int)∧e.2.toNat = x:=by
 unfold suc; simp [List.mem_map,List.mem_filter,and_assoc]
theorem VG.nth {g : G} (h : VG g) {i : Nat} (hi : i < g.es.length) : (0 ≤ (Go.Dfl.nth g.es i).1∧(Go.Dfl.nth g.es i).1 < g.n)∧0 ≤ (Go.Dfl.nth g.es i).2∧(Go.Dfl.nth g.es i).2 < g.n:=h.inn _ (nth_mem _ _ hi)
end Go.Gra
namespace Go.Proofs.YtgblfjccccdidaaGreat
open Go.RowKit Go.Dfl Go.Gra Go.Shelf
attribute [local go_sem] Oper.semAt_some
abbrev Nd (g : G):={ x : Nat // x < g.n.toNat }
def vals {g : G} (l : List (Nd g)) : List Nat:=l.map fun x => x.1
end Go.Proofs.YtgblfjccccdidaaGreat
namespace Go.Dfl
open Go.RowKit
end Go.Dfl
namespace Go.Proofs.YtgblfjccccdidaaGreat
open Go.RowKit Go.Dfl Go.Gra Go.Shelf
attribute [local go_sem] Oper.semAt_some
end Go.Proofs.YtgblfjccccdidaaGreat
namespace Go.Proofs.YtgblfjccccdidaaGreat
open Go.RowKit Go.Dfl Go.Gra
end Go.Proofs.YtgblfjccccdidaaGreat
end
section
namespace Go.Dfl
open Go.RowKit
def shut : List Nat→World→World
 | [],W => W
 | D :: Ds,W => shut Ds (W.putObj D (.deferred none))
end Go.Dfl
namespace Go.Dfl
open Go.RowKit
end Go.Dfl
end
section
namespace Go.Gra
end Go.Gra
namespace Go.Proofs.YtgblfjccccdidaaGreat
open Go.RowKit Go.Dfl Go.Gra
end Go.Proofs.YtgblfjccccdidaaGreat
namespace Go.Gra
end Go.Gra
namespace Go.Proofs.YtgblfjccccdidaaGreat
open Go.RowKit Go.Dfl Go.Gra Go.Shelf
attribute [local go_sem] Oper.semAt_some
end Go.Proofs.YtgblfjccccdidaaGreat
namespace Go.Gra
open Go.Dfl (nth nth_mem mem_nth nth_eq nth_ext)
theorem suc_node {g : G} (h : VG g) {a y : Nat} (hy : y ∈ suc g.es a) : y < g.n.toNat:=by
 obtain ⟨e,he, -,rfl⟩:=mem_suc.1 hy
 have:=h.inn e he
 omega
end Go.Gra
end
section
namespace Go.Gra
open Go.Dfl (nth nth_mem mem_nth nth_eq take_snoc)
def succK (es : List (Int × Int)) (v : Int) (k : Nat) : List Int:=((es.take k).filter fun e => decide (e.1 = v)).map fun e => e.2
theorem succK_yes {es : List (Int × Int)} {v : Int} {k : Nat} (h : k < es.length) (hv : (nth es k).1 = v) : succK es v (k + 1) = succK es v k ++ [(nth es k).2]:=by
 unfold succK; rw [take_snoc _ _ h,List.filter_append,List.map_append]; simp [hv]
theorem succK_no {es : List (Int × Int)} {v : Int} {k : Nat} (h : k < es.length) (hv : (nth es k).1 ≠ v) : succK es v (k + 1) = succK es v k:=by
 unfold succK; rw [take_snoc _ _ h,List.filter_append,List.map_append]; simp [hv]
theorem succK_len (es : List (Int × Int)) (v : Int) (k : Nat) : (succK es v k).length ≤ k:=by
 unfold succK; rw [List.length_map]; exact Nat.le_trans (List.length_filter_le _ _) (by rw [List.length_take]; omega)
theorem succK_suc {g : G} (h : VG g) {v : Int} (hv : 0 ≤ v) : succK g.es v g.es.length = (suc g.es v.toNat).map fun x : Nat => (x : Int):=by
 unfold succK suc
 rw [List.take_length,List.map_map,Int.toNat_of_nonneg hv]
 refine List.map_congr_left fun e he => ?_
 have:=h.inn e (List.mem_filter.1 he).1
 show e.2 = ((e.2.toNat : Nat) : Int)
 omega
end Go.Gra
namespace Go.Proofs.YtgblfjccccdidaaGreat
open Go.RowKit Go.Dfl Go.Gra
end Go.Proofs.YtgblfjccccdidaaGreat
end
section
namespace Go.Gra
open Go.Dfl (nth nth_mem mem_nth nth_eq nth_ext nth_set)
def listsTo (es : List (Int × Int)) (n k : Nat) : List (List Int):=(List.range n).map fun v : Nat => succK es (v : Int) k
theorem listsTo_len (es : List (Int × Int)) (n k : Nat) : (listsTo es n k).length = n:=by simp [listsTo]
theorem listsTo_nth {es : List (Int × Int)} {n k v : Nat} (h : v < n) : nth (listsTo es n k) v = succK es (v : Int) k:=by
 rw [nth_eq _ _ (by rw [listsTo_len]; exact h)]; simp [listsTo]
theorem listsTo_zero (es : List (Int × Int)) (n : Nat) : listsTo es n 0 = List.replicate n []:=by
 rw [List.eq_replicate_iff]
 exact ⟨listsTo_len _ _ _,fun b hb => by simp [listsTo,succK] at hb; exact hb.2⟩
theorem listsTo_succ {es : List (Int × Int)} {n k a : Nat} (hk : k < es.length) (ha : (nth es k).1 = (a : Int)) (han : a < n) : (listsTo es n k).set a (nth (listsTo es n k) a ++ [(nth es k).2]) = listsTo es n (k + 1):=by
 refine nth_ext (by rw [List.length_set,listsTo_len,listsTo_len]) fun i hi => ?_
 rw [List.length_set,listsTo_len] at hi
 rw [nth_set,listsTo_len,listsTo_nth han,listsTo_nth hi,listsTo_nth hi]
 by_cases e : a = i
 ·subst e
  rw [if_pos ⟨rfl,han⟩,succK_yes hk ha]
 ·rw [if_neg (fun h => e h.1),succK_no hk (by omega)]
end Go.Gra
namespace Go.Proofs.YtgblfjccccdidaaGreat
open Go.RowKit Go.Dfl Go.Gra
theorem sRowsG : SliceOf Tryz.prog 27 32 (.slice none 0 0) 1 24:=⟨Tryz.underlying27,info_parts (P:=Tryz.prog) (e:=32) (by kernel_rfl)⟩
abbrev IIg (w : World) (base : Nat) (v : Value) (l : List Int) : Prop:=OwnI w base 3 v l
theorem kIIg : Kind IIg:=Kind.own _ _
def ListsR (g : G) (W : World) (e : Ending) (W' : World) : Prop:=∃ a c vs,e = .returned (.slice a g.n.toNat c)∧OwnN IIg W' W.heap.size 32 (.slice a g.n.toNat c) vs (listsTo g.es g.n.toNat g.es.length)∧Below W.heap.size W W'
theorem OwnN.mono {w : World} {base base' : Nat} {eo : TypeId} {v : Value} {vs : List Value} {ll : List (List Int)} (h : OwnN IIg w base eo v vs ll) (hb : base' ≤ base) : OwnN IIg w base' eo v vs ll :=
 ⟨h.out.mono hb,h.len,fun i hi => (h.inn i hi).mono hb,h.sep,h.apart⟩
structure LsW (W1 : World) (n cap : Nat) (s : Option Addr) (es : List (Int × Int)) (k : Nat) (vs : List Value) (W : World) : Prop where
 rows : OwnN IIg W W1.heap.size 32 (.slice s n cap) vs (listsTo es n k)
 bel : Below W1.heap.size W1 W
end Go.Proofs.YtgblfjccccdidaaGreat
end
section
namespace Go.Proofs.YtgblfjccccdidaaGreat
open Go.Shelf
def sortL_ren : Go.Shelf.Ren:=⟨fun | 6 => 50 | 15 => 82 | 14 => 81 | 28 => 113 | 29 => 114 | 20 => 105 | 21 => 106 | 22 => 107 | 23 => 108 | 24 => 109 | 25 => 110 | 26 => 111 | 27 => 112 | 46 => 134 | 47 => 135 | 48 => 136 | 49 => 137 | 50 => 138 | 57 => 142 | n => n,fun | 22 => 27 | 24 => 32 | 25 => 79 | 3 => 3 | 39 => 111 | 0 => 0 | 53 => 156 | 55 => 110 | 4 => 4 | 46 => 150 | 45 => 149 | 50 => 146 | 5 => 5 | 9 => 9 | 66 => 173 | 70 => 177 | 76 => 181 | 77 => 182 | n => n,fun | n => n⟩
theorem sortL : Go.Proofs.SlLaysF.n6 Tryz.prog sortL_ren:={
 mixed:=by kernel_rfl
 f6:=⟨Tryz.f50.name,by decide,Tryz.func50.trans (congrArg some (by kernel_rfl))⟩
 f14:=⟨Tryz.f81.name,by decide,Tryz.func81.trans (congrArg some (by kernel_rfl))⟩
 f15:=Tryz.func82.trans (congrArg some (by kernel_rfl))
 f20:=⟨Tryz.f105.name,by decide,Tryz.func105.trans (congrArg some (by kernel_rfl))⟩
 f21:=⟨Tryz.f106.name,by decide,Tryz.func106.trans (congrArg some (by kernel_rfl))⟩
 f22:=⟨Tryz.f107.name,by decide,Tryz.func107.trans (congrArg some (by kernel_rfl))⟩
 f23:=⟨Tryz.f108.name,by decide,Tryz.func108.trans (congrArg some (by kernel_rfl))⟩
 f24:=⟨Tryz.f109.name,by decide,Tryz.func109.trans (congrArg some (by kernel_rfl))⟩
 f25:=⟨Tryz.f110.name,by decide,Tryz.func110.trans (congrArg some (by kernel_rfl))⟩
 f26:=⟨Tryz.f111.name,by decide,Tryz.func111.trans (congrArg some (by kernel_rfl))⟩
 f27:=⟨Tryz.f112.name,by decide,Tryz.func112.trans (congrArg some (by kernel_rfl))⟩
 f28:=Tryz.func113.trans (congrArg some (by kernel_rfl))
 f29:=Tryz.func114.trans (congrArg some (by kernel_rfl))
 f46:=⟨Tryz.f134.name,by decide,Tryz.func134.trans (congrArg some (by kernel_rfl))⟩
 f47:=Tryz.func135.trans (congrArg some (by kernel_rfl))
 f48:=Tryz.func136.trans (congrArg some (by kernel_rfl))
 f49:=⟨Tryz.f137.name,by decide,Tryz.func137.trans (congrArg some (by kernel_rfl))⟩
 f50:=⟨Tryz.f138.name,by decide,Tryz.func138.trans (congrArg some (by kernel_rfl))⟩
 f57:=⟨Tryz.f142.name,by decide,Tryz.func142.trans (congrArg some (by kernel_rfl))⟩
 t0:=Tryz.underlying0
 a0:=Tryz.isAgg0
 z0:=Tryz.sizeOf0
 v0:=Tryz.zeroValue0
 t3:=Tryz.underlying3
 a3:=Tryz.isAgg3
 z3:=Tryz.sizeOf3
 v3:=Tryz.zeroValue3
 t4:=Tryz.underlying4
 a4:=Tryz.isAgg4
 z4:=Tryz.sizeOf4
 v4:=Tryz.zeroValue4
 t5:=Tryz.underlying5
 a5:=Tryz.isAgg5
 z5:=Tryz.sizeOf5
 v5:=Tryz.zeroValue5
 t9:=Tryz.underlying9
 a9:=Tryz.isAgg9
 z9:=Tryz.sizeOf9
 v9:=Tryz.zeroValue9
 t22:=Tryz.underlying27
 a22:=Tryz.isAgg27
 z22:=Tryz.sizeOf27
 v22:=Tryz.zeroValue27
 a24:=Tryz.isAgg32
 z24:=Tryz.sizeOf32
 t25:=Tryz.underlying79
 a25:=Tryz.isAgg79
 z25:=Tryz.sizeOf79
 v25:=Tryz.zeroValue79
 t39:=Tryz.underlying111
 a39:=Tryz.isAgg111
 z39:=Tryz.sizeOf111
 v39:=Tryz.zeroValue111
 t45:=Tryz.underlying149
 a45:=Tryz.isAgg149
 z45:=Tryz.sizeOf149
 v45:=Tryz.zeroValue149
 t46:=Tryz.underlying150
 a46:=Tryz.isAgg150
 z46:=Tryz.sizeOf150
 v46:=Tryz.zeroValue150
 t50:=Tryz.underlying146
 a50:=Tryz.isAgg146
 z50:=Tryz.sizeOf146
 v50:=Tryz.zeroValue146
 t53:=Tryz.underlying156
 a53:=Tryz.isAgg156
 z53:=Tryz.sizeOf156
 v53:=Tryz.zeroValue156
 t55:=Tryz.underlying110
 a55:=Tryz.isAgg110
 z55:=Tryz.sizeOf110
 v55:=Tryz.zeroValue110
 t66:=Tryz.underlying173
 a66:=Tryz.isAgg173
 z66:=Tryz.sizeOf173
 v66:=Tryz.zeroValue173
 t70:=Tryz.underlying177
 a70:=Tryz.isAgg177
 z70:=Tryz.sizeOf177
 v70:=Tryz.zeroValue177
 t76:=Tryz.underlying181
 a76:=Tryz.isAgg181
 z76:=Tryz.sizeOf181
 v76:=Tryz.zeroValue181
 t77:=Tryz.underlying182
 a77:=Tryz.isAgg182
 z77:=Tryz.sizeOf182
 v77:=Tryz.zeroValue182 }
def delL_ren : Go.Shelf.Ren:=⟨fun | 10 => 48 | 6 => 80 | n => n,fun | 22 => 27 | 23 => 32 | 25 => 76 | 3 => 3 | 4 => 4 | 0 => 0 | n => n,fun | n => n⟩
theorem delL : Go.Proofs.SlLaysH.n10 Tryz.prog delL_ren:={
 mixed:=by kernel_rfl
 f6:=⟨Tryz.f80.name,by decide,Tryz.func80.trans (congrArg some (by kernel_rfl))⟩
 f10:=⟨Tryz.f48.name,by decide,Tryz.func48.trans (congrArg some (by kernel_rfl))⟩
 t0:=Tryz.underlying0
 a0:=Tryz.isAgg0
 z0:=Tryz.sizeOf0
 v0:=Tryz.zeroValue0
 t3:=Tryz.underlying3
 a3:=Tryz.isAgg3
 z3:=Tryz.sizeOf3
 v3:=Tryz.zeroValue3
 t4:=Tryz.underlying4
 a4:=Tryz.isAgg4
 z4:=Tryz.sizeOf4
 v4:=Tryz.zeroValue4
 t22:=Tryz.underlying27
 a22:=Tryz.isAgg27
 z22:=Tryz.sizeOf27
 v22:=Tryz.zeroValue27
 a23:=Tryz.isAgg32
 z23:=Tryz.sizeOf32
 t25:=Tryz.underlying76
 a25:=Tryz.isAgg76
 z25:=Tryz.sizeOf76
 v25:=Tryz.zeroValue76 }
end Go.Proofs.YtgblfjccccdidaaGreat
end
section
namespace Go.Clp
open Go.Sort Go.Proofs
theorem ltKey {α : Type} (key : α→Int) (x y : α) : ltOf (fun x y => Go.Gra.cmpI (key x) (key y)) x y = decide (key x < key y):=by
 unfold ltOf
 show decide (Go.Gra.cmpI (key x) (key y) < 0) = _
 unfold Go.Gra.cmpI
 by_cases h : key x < key y
 ·rw [if_pos h]; simp [h]
 ·rw [if_neg h]; split <;> simp [h]
theorem swoKey {α : Type} (key : α→Int) : SWO (ltOf (fun x y => Go.Gra.cmpI (key x) (key y))) where
 irrefl x:=by rw [ltKey]; simp
 trans x y z h1 h2:=by rw [ltKey] at *; simp only [decide_eq_true_eq] at *; omega
 ntrans x y z h1 h2:=by rw [ltKey] at *; simp only [decide_eq_false_iff_not] at *; omega
end Go.Clp
namespace Go.Proofs.YtgblfjccccdidaaGreat
open Go.RowKit Go.Dfl Go.Gra Go.Sort Go.Clp
theorem pred_any (a : Option Addr) (n c : Nat) (W : World) : Calls Tryz.prog 49 #[.slice a n c] W fun e W' => e = .returned (.bool (decide (n < 2)))∧W' = W:=by
 have H0:=Lib.hid (show decide ((n : Int) < 2) = decide (n < 2) by congr 1; apply propext; omega)
 go_enter Tryz.func49,Tryz.ntmps49
 go_wp2_with fail
 go_ret
 exact ⟨ret_bool H0.out,rfl⟩
theorem key_any (va vb : Value) (la lb : List Int) (W : World) (h1 : Ints W va la) (h2 : Ints W vb lb) (p1 : 0 < la.length) (p2 : 0 < lb.length) :
  Calls Tryz.prog 51 #[va,vb] W fun e W' => e = .returned (.int .i64 (cmpI (key la) (key lb)))∧Qt W W':=by
 obtain ⟨a,ca,rfl,m1,i1,d1, -⟩:=h1.out1 sIntG
 obtain ⟨b,cb,rfl,m2,i2,d2, -⟩:=h2.out1 sIntG
 have x1:=i1 .i64 0 (by omega) (by omega)
 have x2:=i2 .i64 0 (by omega) (by omega)
 have y1:=d1 0 p1
 have y2:=d2 0 p2
 rw [show ((0 : Int)).toNat = 0 from rfl,Nat.add_zero] at x1 x2
 rw [Nat.add_zero] at y1 y2
 clear i1 i2 d1 d2 h1 h2
 unfold key
 go_enter Tryz.func51,Tryz.ntmps51
 go_upto_region 1 with fail
 go_quiet ((go_at_call 52; first | exact Qt.quiet ((cmpI_any _ _ _).mono fun _ _ h => ⟨h.1,h.2 ▸ Qt.refl _⟩) | exact Qt.quiet2 ((cmpI_any _ _ _).mono fun _ _ h => ⟨h.1,h.2 ▸ Qt.refl _⟩)))
 go_wp2
 go_ret
 exact ⟨rfl,(by first | exact Qt.refl _ | exact Qt.drewN _ _ | exact (Qt.drewN _ _).trans (Qt.drewN _ _) | exact ((Qt.drewN _ _).trans (Qt.drewN _ _)).trans (Qt.drewN _ _) | exact Qt.drew _ | exact (Qt.drewN _ _).trans (Qt.drew _))⟩
abbrev fv49 : Value:=.func (.func 49) #[] #[]
abbrev fv51 : Value:=.func (.func 51) #[] #[]
def DelR (base : Nat) (v : Value) (ll : List (List Int)) (W : World) (e : Ending) (W' : World) : Prop:=∃ v' vs',e = .returned v'∧OwnN IIg W' base 32 v' vs' (ll.filter bigB)∧W.grownBy W' v.ownBlock∧∀ k,v'.ownBlock = some k→v.ownBlock = some k
set_option maxHeartbeats 1600000 in
theorem del_some (base g cap : Nat) (vs : List Value) (ll : List (List Int)) (W : World) (h : OwnN IIg W base 32 (.slice (some ⟨g,0,none⟩) ll.length cap) vs ll) (hl : ll.length ≤ 1000000) :
  Calls Tryz.prog 48 #[.slice (some ⟨g,0,none⟩) ll.length cap,fv49] W (DelR base (.slice (some ⟨g,0,none⟩) ll.length cap) ll W):=by
 have eg : ∀ args w,(callFunc 49 args).run Tryz.prog w = .ok (.enter 49 args) w:=enters_of Tryz.func49 (by kernel_rfl) rfl
 obtain ⟨enc,henc⟩ : ∃ enc : Nat→Value,enc = fun i => if i < ll.length then nth vs i else .slice none 0 0:=⟨_,rfl⟩
 have hshape : ∀ i, ∃ a c,enc i = .slice a (nth ll i).length c:=fun i => by
  rw [henc]
  by_cases hi : i < ll.length
  ·simp only [hi,if_true]
   obtain ⟨a,c,e⟩:=(h.inn i hi).shape rfl
   exact ⟨a,c,e⟩
  ·simp only [hi,if_false]
   exact ⟨none,0,by rw [nth_out _ _ (by omega)]; rfl⟩
 have hone : OneCell enc:=fun i => by
  obtain ⟨a,c,e⟩:=hshape i
  rw [e]; rfl
 obtain ⟨d,hd⟩ : ∃ d : Array Nat,d = (List.range ll.length).toArray:=⟨_,rfl⟩
 have hds : d.size = ll.length:=by rw [hd]; simp
 have hvs : vs = d.toList.map enc:=by
  rw [hd,henc]
  refine nth_ext (by simp [h.len]) fun i hi => ?_
  rw [h.len] at hi
  rw [nth_eq (List.map _ _) _ (by simpa using hi)]
  simp [hi]
 have hcap : ll.length ≤ cap:=by
  obtain ⟨a,c,he,h1, -⟩:=h.out.lst
  simp only [Value.slice.injEq] at he
  rw [h.len] at h1; omega
 have hH : Holds enc W g 0 d:=own_holds h.out d hvs
 obtain ⟨p,hp⟩ : ∃ p : Nat→Bool,p = fun i => decide ((nth ll i).length < 2):=⟨_,rfl⟩
 have hpred : ∀ (Z : World) (x : Nat),FnGives Tryz.prog 49 #[] #[enc x] (.bool (p x)) Z:=fun Z x => by
  obtain ⟨a,c,e⟩:=hshape x
  unfold FnGives
  rw [e,hp]
  exact (pred_any a _ c Z).mono fun _ _ q => ⟨q.1,0,by rw [q.2]; rfl⟩
 have hz : ∀ w,(zeroValue (delL_ren.t 23)).run Tryz.prog w = .ok (enc ll.length) w:=fun w => by
  have : enc ll.length = .slice none 0 0:=by rw [henc]; simp
  rw [this]; exact Tryz.zeroValue32 w
 have hcon:=AnyE.slices_DeleteFunc delL enc hone p 49 #[] eg ll.length hz g 0 cap d W (fun Z x _ => hpred Z x) (fun n os dk x _ => hpred _ x) hH (by omega) (by rw [hds]; exact hcap)
 change Calls Tryz.prog 48 _ _ _ at hcon
 rw [hds] at hcon
 refine hcon.mono ?_
 rintro e W' ⟨rfl,q,rfl⟩
 obtain ⟨J,hJ⟩ : ∃ J,J = d.toList.filter fun x => !p x:=⟨_,rfl⟩
 rw [← hJ]
 have hJ2 : J = (List.range ll.length).filter fun i => bigB (nth ll i):=by
  rw [hJ,hd,hp]
  refine List.filter_congr fun x _ => ?_
  unfold bigB
  by_cases h9 : (nth ll x).length < 2
  ·simp [h9]
  ·simp [h9]; omega
 have hJl : J.length ≤ ll.length:=by rw [hJ2]; exact Nat.le_trans (List.length_filter_le _ _) (by simp)
 obtain ⟨ar,har⟩ : ∃ ar : Array Nat,ar = (J ++ List.replicate (ll.length - J.length) ll.length).toArray:=⟨_,rfl⟩
 have hars : ar.size = vs.length:=by rw [har,h.len]; simp; omega
 rw [← har,show putRow enc (Sort.ahead W q) g 0 ar = sortWorld enc W g 0 q ar #[] by unfold sortWorld; rw [grow_empty]]
 obtain ⟨o1,o2⟩:=own_sorted (enc:=enc) h.out ar hars q #[]
 have o3:=own_take o1 (k:=J.length) (by simp [har])
 have e1 : (ar.toList.map enc).take J.length = J.map (nth vs):=by
  rw [har,List.map_append,List.take_append_of_le_length (by simp),List.take_of_length_le (by simp)]
  refine List.map_congr_left fun x hx => ?_
  rw [henc]
  have : x < ll.length:=by rw [hJ2] at hx; simpa using (List.mem_filter.1 hx).1
  simp [this]
 rw [e1] at o3
 have hnd : J.Nodup:=by rw [hJ2]; exact List.nodup_range.filter _
 have hlt : ∀ i ∈ J,i < ll.length:=fun x hx => by rw [hJ2] at hx; simpa using (List.mem_filter.1 hx).1
 have hp2:=h.pick kIIg hnd hlt o3 o2 (fun k hk => hk)
 rw [show J.map (nth ll) = ll.filter bigB by rw [hJ2]; exact filter_range_nth ll bigB] at hp2
 exact ⟨_,_,rfl,hp2,o2,fun k hk => hk⟩
theorem idx_none (c : Nat) (W : World) : Calls Tryz.prog 80 #[.slice none 0 c,fv49] W fun e W' => e = .returned (.int .i64 (-1))∧W' = W:=by
 go_enter Tryz.func80,Tryz.ntmps80
 go_wp2_with fail
 go_loopw [5,8] (fun _ x wr => x = .int .i64 0∧wr = W) (fun _ _ _ => 0)
 case atStart => exact ⟨rfl,rfl⟩
 case round =>
  obtain ⟨rfl,rfl⟩:=hrel
  go_wp2_with fail
  go_ret
  exact ⟨rfl,rfl⟩
theorem del_none (c : Nat) (W : World) : Calls Tryz.prog 48 #[.slice none 0 c,fv49] W fun e W' => e = .returned (.slice none 0 c)∧W' = W:=by
 go_enter Tryz.func48,Tryz.ntmps48
 go_wp2_with fail
 refine (idx_none c W).mono ?_
 rintro e W' ⟨rfl,rfl⟩
 go_wp2_with fail
 go_ret
 exact ⟨rfl,rfl⟩
def SortLR (base : Nat) (v : Value) (ll : List (List Int)) (W : World) (e : Ending) (W' : World) : Prop:=e = .returned (.tuple #[])∧∃ vs' ll',OwnN IIg W' base 32 v vs' ll'∧ll'.Perm ll∧(ll'.Pairwise fun a b => ¬ key b < key a)∧W.grownBy W' v.ownBlock
set_option maxHeartbeats 1600000 in
theorem sortL_some (base g cap : Nat) (vs : List Value) (ll : List (List Int)) (W : World) (h : OwnN IIg W base 32 (.slice (some ⟨g,0,none⟩) ll.length cap) vs ll) (hl : ll.length ≤ 1000000) (hpos : ∀ i,i < ll.length→0 < (nth ll i).length) (h0 : 0 < ll.length) :
  Calls Tryz.prog 50 #[.slice (some ⟨g,0,none⟩) ll.length cap,fv51] W (SortLR base (.slice (some ⟨g,0,none⟩) ll.length cap) ll W):=by
 have eg : ∀ args w,(callFunc 51 args).run Tryz.prog w = .ok (.enter 51 args) w:=enters_of Tryz.func51 (by kernel_rfl) rfl
 obtain ⟨enc,henc⟩ : ∃ enc : Nat→Value,enc = fun i => nth vs (i % ll.length):=⟨_,rfl⟩
 obtain ⟨kf,hkf⟩ : ∃ kf : Nat→Int,kf = fun i => key (nth ll (i % ll.length)):=⟨_,rfl⟩
 have hmod : ∀ i,i % ll.length < ll.length:=fun i => Nat.mod_lt _ h0
 have hone : OneCell enc:=fun i => by
  obtain ⟨a,c,e⟩:=(h.inn _ (hmod i)).shape rfl
  rw [henc]
  show (nth vs (i % ll.length)).oneCell' = true
  rw [e]; rfl
 obtain ⟨d,hd⟩ : ∃ d : Array Nat,d = (List.range ll.length).toArray:=⟨_,rfl⟩
 have hds : d.size = ll.length:=by rw [hd]; simp
 have hvs : vs = d.toList.map enc:=by
  rw [hd,henc]
  refine nth_ext (by simp [h.len]) fun i hi => ?_
  rw [h.len] at hi
  rw [nth_eq (List.map _ _) _ (by simpa using hi)]
  simp [Nat.mod_eq_of_lt hi]
 have hH : Holds enc W g 0 d:=own_holds h.out d hvs
 have hob : (Value.slice (some ⟨g,0,none⟩) ll.length cap).ownBlock = some g:=rfl
 have hgl:=(h.foot kIIg g (.inl hob)).2
 have hcmp : CmpLays1 Tryz.prog 51 #[] enc (fun x y => cmpI (kf x) (kf y)) g 0 d.size W:=by
  intro m os dk hdk x y
  obtain ⟨-,o2⟩:=own_sorted (enc:=enc) h.out dk (by rw [hdk,hds,h.len]) m os
  have hrow : ∀ i,Ints (sortWorld enc W g 0 m dk os) (nth vs (i % ll.length)) (nth ll (i % ll.length)):=fun i => by
   refine (kIIg.grown (h.inn _ (hmod i)) o2 ?_).lst
   cases hb : (nth vs (i % ll.length)).ownBlock with
   | none => exact .inl rfl
   | some q => exact .inr fun e => h.apart _ (hmod i) q hb (by rw [hob,e])
  have:=key_any _ _ _ _ _ (hrow x) (hrow y) (hpos _ (hmod x)) (hpos _ (hmod y))
  have e1 : ∀ i,nth vs (i % ll.length) = enc i:=fun i => by rw [henc]
  have e2 : ∀ i,key (nth ll (i % ll.length)) = kf i:=fun i => by rw [hkf]
  rw [e1,e1,e2,e2] at this
  refine this.mono ?_
  rintro e W' ⟨rfl,q,rfl⟩
  exact ⟨rfl,q, #[],by rw [grow_empty]⟩
 have hcon:=Any.slices_SortFunc sortL enc hone (fun x y => cmpI (kf x) (kf y)) (swoKey kf) 51 #[] g 0 cap d W eg hcmp hH hgl (by omega)
 change Calls Tryz.prog 50 _ _ _ at hcon
 rw [hds] at hcon
 refine hcon.mono ?_
 rintro e W' ⟨rfl,d',n,os,hp,hs,rfl⟩
 obtain ⟨p1, -,p3⟩:=hp
 have hd' : d'.size = ll.length:=by rw [p1,hds]
 have hperm : d'.toList.Perm (List.range ll.length):=by
  have e1 : (d'.extract 0 ll.length) = d':=by rw [← hd']; exact Array.extract_size
  have e2 : (d.extract 0 ll.length) = d:=by rw [← hds]; exact Array.extract_size
  rw [e1,e2,hd] at p3
  exact p3
 obtain ⟨o1,o2⟩:=own_sorted (enc:=enc) h.out d' (by rw [hd',h.len]) n os
 have hlt : ∀ i ∈ d'.toList,i < ll.length:=fun x hx => by simpa using hperm.subset hx
 have e1 : d'.toList.map enc = d'.toList.map (nth vs):=List.map_congr_left fun x hx => by rw [henc]; show nth vs (x % ll.length) = _; rw [Nat.mod_eq_of_lt (hlt x hx)]
 rw [e1] at o1
 have hp2:=h.pick kIIg (hperm.symm.nodup List.nodup_range) hlt o1 o2 (fun k hk => hk)
 refine ⟨rfl,_,_,hp2, ?_, ?_,o2⟩
 ·have:=hperm.map (nth ll)
  rwa [map_range_nth] at this
 ·rw [List.pairwise_map,List.pairwise_iff_getElem]
  intro i j hi hj hij
  have hil : i < d'.size:=by simpa using hi
  have hjl : j < d'.size:=by simpa using hj
  have h1:=hs i j (Nat.zero_le _) hij (by rw [← hd']; exact hjl)
  rw [ltKey,decide_eq_false_iff_not,hkf] at h1
  have e1 : d'[j]! = d'.toList[j]:=by rw [getElem!_pos d' j hjl]; simp
  have e2 : d'[i]! = d'.toList[i]:=by rw [getElem!_pos d' i hil]; simp
  rw [e1,e2] at h1
  show ¬ key (nth ll d'.toList[j]) < key (nth ll d'.toList[i])
  have m1:=Nat.mod_eq_of_lt (hlt _ (List.getElem_mem hj))
  have m2:=Nat.mod_eq_of_lt (hlt _ (List.getElem_mem hi))
  simp only [m1,m2] at h1
  exact h1
theorem sortL_none (p : Option Addr) (c : Nat) (W : World) : Calls Tryz.prog 50 #[.slice p 0 c,fv51] W fun e W' => e = .returned (.tuple #[])∧W' = W:=AnyF.slices_SortFunc_none { sortL with } p c fv51 W
theorem del_any (base : Nat) (v : Value) (vs : List Value) (ll : List (List Int)) (W : World) (h : OwnN IIg W base 32 v vs ll) (hl : ll.length ≤ 1000000) : Calls Tryz.prog 48 #[v,fv49] W (DelR base v ll W):=by
 rcases h.out.2 with ⟨h1,h2⟩ | ⟨g,cap,cur,h1, -⟩
 ·rw [h1] at h ⊢
  have : ll = []:=List.length_eq_zero_iff.1 (by rw [← h.len]; exact h2)
  subst this
  refine (del_none 0 W).mono ?_
  rintro e W' ⟨rfl,rfl⟩
  exact ⟨_,vs,rfl,h,grownBy_refl _ _,fun k hk => hk⟩
 ·have hv:=h1
  rw [h.len] at hv
  rw [hv] at h ⊢
  exact del_some base g cap vs ll W h hl
theorem sortL_any (base : Nat) (v : Value) (vs : List Value) (ll : List (List Int)) (W : World) (h : OwnN IIg W base 32 v vs ll) (hl : ll.length ≤ 1000000) (hpos : ∀ i,i < ll.length→0 < (nth ll i).length) : Calls Tryz.prog 50 #[v,fv51] W (SortLR base v ll W):=by
 by_cases h0 : ll = []
 ·subst h0
  have hvs : vs.length = 0:=by rw [h.len]; rfl
  obtain ⟨p,c,hv⟩:=h.out.shape hvs
  rw [hv] at h ⊢
  refine (sortL_none p c W).mono ?_
  rintro e W' ⟨rfl,rfl⟩
  exact ⟨rfl,vs, [],h,List.Perm.refl _,List.Pairwise.nil,grownBy_refl _ _⟩
 ·rcases h.out.2 with ⟨h1,h2⟩ | ⟨g,cap,cur,h1, -⟩
  ·exact absurd (List.length_eq_zero_iff.1 (by rw [← h.len]; exact h2)) h0
  ·have hv:=h1
   rw [h.len] at hv
   rw [hv] at h ⊢
   exact sortL_some base g cap vs ll W h hl hpos (List.length_pos_iff.2 h0)
end Go.Proofs.YtgblfjccccdidaaGreat
end
section
namespace Go.And
def bigS (s : Sy) : Bool:=decide (65536 < s.vars) || decide (1024 < s.sites) || decide (1024 < s.fields) || decide (65536 < s.sites * s.fields)
def chkG (s : Sy) : Int:=if s.vars < 0 ∨ s.sites < 0 ∨ s.fields < 0 then 4 else if bigS s = true then 3 else firstCode s s.cons
def colC (s : Sy) : Int:=if chkG s ≠ 0 then chkG s else if 8192 < s.vars then 3 else 0
theorem colC_ok {s : Sy} (h : colC s = 0) : chkG s = 0∧s.vars ≤ 8192:=by
 unfold colC at h
 by_cases h0 : chkG s = 0
 ·rw [if_neg (by simpa using h0)] at h
  by_cases h1 : 8192 < s.vars
  ·rw [if_pos h1] at h; omega
  ·exact ⟨h0,by omega⟩
 ·rw [if_pos h0] at h; exact absurd h h0
theorem chkG_ok {s : Sy} (h : chkG s = 0) : chkCode s = 0∧s.vars ≤ 65536∧s.sites ≤ 1024∧s.fields ≤ 1024:=by
 unfold chkG at h
 by_cases h0 : s.vars < 0 ∨ s.sites < 0 ∨ s.fields < 0
 ·rw [if_pos h0] at h; omega
 ·rw [if_neg h0] at h
  by_cases h1 : bigS s = true
  ·rw [if_pos h1] at h; omega
  ·rw [if_neg h1] at h
   unfold bigS at h1
   simp at h1
   exact ⟨by unfold chkCode; rw [if_neg h0]; exact h,by omega,by omega,by omega⟩
end Go.And
namespace Go.Proofs.YtgblfjccccdidaaGreat
open Go.RowKit Go.Dfl Go.And
set_option maxHeartbeats 3200000 in
theorem CheckG_any (s : Sy) (cv : Value) (W : World) (hc : ConsIn W cv s.cons) (hl9 : s.cons.length ≤ 1000) :
  Calls Tryz.prog 40 #[SysV s cv] W fun e W' => e = .returned (.int .i64 (chkG s))∧Below W.heap.size W W':=by
 obtain ⟨ca,cc,rfl,hlen,hci,hcc⟩:=hc.out
 have HC:=Lib.hid (And.intro hcc hc)
 clear hcc hc
 unfold SysV
 by_cases h1 : s.vars < 0
 ·go_enter Tryz.func40,Tryz.ntmps40
  go_wp2_with fail
  go_ret
  exact ⟨ret_int (by unfold chkG; rw [if_pos (by omega)]),(Below.refl _ _).alloc (Nat.le_refl _) _⟩
 by_cases h2 : s.sites < 0
 ·go_enter Tryz.func40,Tryz.ntmps40
  go_wp2_with fail
  go_ret
  exact ⟨ret_int (by unfold chkG; rw [if_pos (by omega)]),(Below.refl _ _).alloc (Nat.le_refl _) _⟩
 by_cases h3 : s.fields < 0
 ·go_enter Tryz.func40,Tryz.ntmps40
  go_wp2_with fail
  go_ret
  exact ⟨ret_int (by unfold chkG; rw [if_pos (by omega)]),(Below.refl _ _).alloc (Nat.le_refl _) _⟩
 by_cases g1 : 65536 < s.vars
 ·go_enter Tryz.func40,Tryz.ntmps40
  go_wp2_with fail
  go_ret
  exact ⟨ret_int (by unfold chkG bigS; rw [if_neg (by omega),if_pos (by simp; omega)]),(Below.refl _ _).alloc (Nat.le_refl _) _⟩
 by_cases g2 : 1024 < s.sites
 ·go_enter Tryz.func40,Tryz.ntmps40
  go_wp2_with fail
  go_ret
  exact ⟨ret_int (by unfold chkG bigS; rw [if_neg (by omega),if_pos (by simp; omega)]),(Below.refl _ _).alloc (Nat.le_refl _) _⟩
 by_cases g3 : 1024 < s.fields
 ·go_enter Tryz.func40,Tryz.ntmps40
  go_wp2_with fail
  go_ret
  exact ⟨ret_int (by unfold chkG bigS; rw [if_neg (by omega),if_pos (by simp; omega)]),(Below.refl _ _).alloc (Nat.le_refl _) _⟩
 have hm0 : 0 ≤ s.sites * s.fields:=Int.mul_nonneg (by omega) (by omega)
 have hm1 : s.sites * s.fields ≤ 1048576:=by
  have h : s.sites * s.fields ≤ 1024 * 1024:=Int.mul_le_mul (by omega) (by omega) (by omega) (by omega)
  omega
 by_cases g4 : 65536 < s.sites * s.fields
 ·go_enter Tryz.func40,Tryz.ntmps40
  go_wp2_with fail
  go_ret
  exact ⟨ret_int (by unfold chkG bigS; rw [if_neg (by omega),if_pos (by simp; omega)]),(Below.refl _ _).alloc (Nat.le_refl _) _⟩
 have hcode : chkG s = fromCode s 0:=by unfold chkG fromCode bigS; rw [if_neg (by omega),if_neg (by simp; omega)]; rfl
 have HK:=Lib.hid hcode
 clear hcode
 go_enter Tryz.func40,Tryz.ntmps40
 go_wp2_with fail
 refine wp_gen (fun Z => BoxS Z W.heap.size s (.slice ca s.cons.length cc)∧Below W.heap.size W Z) ⟨BoxS.new _ _ _ _,(Below.refl _ _).alloc (Nat.le_refl _) _⟩ ?_
 rintro W1 h5
 obtain ⟨bw,hbw⟩ : ∃ bw,bw = W.heap.size:=⟨_,rfl⟩
 rw [← hbw] at h5 ⊢
 have H5:=Lib.hid h5
 have Hbw:=Lib.hid hbw
 clear h5 hbw hm0 hm1 h1 h2 h3 g1 g2 g3 g4
 go_loopw [4,5,49] (fun _ _ x wr => ∃ k : Nat,k ≤ s.cons.length∧x = .int .i64 k∧Hid (BoxS wr bw s (.slice ca s.cons.length cc)∧Below bw W wr∧chkG s = fromCode s k)) (fun _ _ x _ => s.cons.length - (intOf x).toNat)
 case atStart => exact ⟨0,by omega,rfl,H5.out.1,H5.out.2,HK.out⟩
 case round =>
  obtain ⟨k,hk,rfl,hh⟩:=hrel
  by_cases hlt : k < s.cons.length
  ·obtain ⟨sa,sn,sc,c0,c1,c2,c3,c4,hset,hbl⟩:=HC.out.1 k hlt
   have hbel:=hh.out.2.1
   have hbl' : blk ca < bw:=by rw [Hbw.out]; exact hbl
   rw [← hbel.cell (p:=⟨blk ca,ofs ca + k * 5,none⟩) hbl'] at c0
   rw [← hbel.cell (p:=⟨blk ca,ofs ca + k * 5 + 1,none⟩) hbl'] at c1
   rw [← hbel.cell (p:=⟨blk ca,ofs ca + k * 5 + 2,none⟩) hbl'] at c2
   rw [← hbel.cell (p:=⟨blk ca,ofs ca + k * 5 + 3,none⟩) hbl'] at c3
   rw [← hbel.cell (p:=⟨blk ca,ofs ca + k * 5 + 4,none⟩) hbl'] at c4
   obtain ⟨d0,d1,d2,d3⟩:=hh.out.1
   have hstep:=fromCode_step hlt
   have hwr : W.heap.size ≤ wr.heap.size:=by rw [← Hbw.out]; exact Nat.le_trans (by rw [Hbw.out]; exact Nat.le_refl _) hbel.size
   have hset' : Ints wr (.slice sa sn sc) (nth s.cons k).s:=hset.below (by rw [← Hbw.out]; exact hbel)
   have hbwl : bw < wr.heap.size:=World.block_lt_of_cell? wr _ d0
   have n1 : bw ≠ wr.heap.size:=by omega
   have HS:=Lib.hid (And.intro hstep (And.intro hset' (And.intro hbel (And.intro hh.out.2.2 hh.out.1))))
   clear hstep hset' hbel hset hbl hbl' hh
   generalize nth s.cons k = c at *
   have hg9:=grownBy_alloc wr (.cells #[.int .i64 c.k,.int .i64 c.a,.int .i64 c.b,.int .i64 c.f,.slice sa sn sc] 48)
   have HG:=Lib.hid hg9
   clear hg9
   go_wp2_with fail
   refine (check_any s (.slice ca s.cons.length cc) c (.slice sa sn sc) _ (HS.out.2.1.grown HG.out (by simp))).mono ?_
   rintro e W7 ⟨rfl,q7⟩
   have g7:=grownBy_trans HG.out (grownBy_below q7)
   have bx7:=HS.out.2.2.2.2.grown g7 (by simp)
   have be7:=HS.out.2.2.1.grown g7 (by omega) (by simp)
   have H7:=Lib.hid (And.intro bx7 be7)
   clear bx7 be7 g7 q7 d0 d1 d2 d3 c0 c1 c2 c3 c4
   by_cases h0 : conCode s c = 0
   ·have hz : ((0 : Int) != 0) = false:=rfl
    rw [h0]
    have hst:=HS.out.1
    rw [if_pos h0] at hst
    have HT:=Lib.hid hst
    clear hst h0
    go_wp2_with fail
    go_roundw
    case rel => exact ⟨k + 1,by omega,by go_num,H7.out.1,H7.out.2,by rw [HS.out.2.2.2.1,HT.out]⟩
    case measure => simp [intOf]; omega
   ·have hst:=HS.out.1
    rw [if_neg h0] at hst
    have HT:=Lib.hid hst
    have hz : (conCode s c != 0) = true:=by simpa using h0
    clear hst
    generalize conCode s c = code at *
    go_wp2_with fail
    go_ret
    exact ⟨ret_int (by rw [HS.out.2.2.2.1,HT.out]),by rw [← Hbw.out]; exact H7.out.2⟩
  ·obtain rfl : k = s.cons.length:=by omega
   have HE:=Lib.hid hh.out
   clear hh
   go_wp2_with fail
   go_ret
   exact ⟨ret_int (by rw [HE.out.2.2,fromCode_end]),by rw [← Hbw.out]; exact HE.out.2.1⟩
set_option maxHeartbeats 1600000 in
theorem colcheck_any (s : Sy) (cv : Value) (W : World) (hc : ConsIn W cv s.cons) (hl9 : s.cons.length ≤ 1000) :
  Calls Tryz.prog 25 #[SysV s cv] W fun e W' => e = .returned (.int .i64 (colC s))∧Below W.heap.size W W':=by
 have b0:=(Below.refl W.heap.size W).alloc (Nat.le_refl _) (.cells #[.int .i64 s.vars,.int .i64 s.sites,.int .i64 s.fields,cv] 24)
 have hbx:=BoxS.new W s cv 24
 have H0:=Lib.hid (And.intro hc (And.intro b0 hbx))
 clear hc b0 hbx
 unfold SysV
 go_enter Tryz.func25,Tryz.ntmps25
 go_wp2_with fail
 refine (CheckG_any s cv _ (H0.out.1.below H0.out.2.1) hl9).mono ?_
 rintro e W1 ⟨rfl,q1⟩
 obtain ⟨d0, -, -, -⟩:=H0.out.2.2.grown (grownBy_below q1) (by simp)
 have b1:=H0.out.2.1.trans (q1.mono H0.out.2.1.size)
 have H1:=Lib.hid b1
 clear b1 q1
 by_cases h0 : chkG s = 0
 ·rw [h0]
  have HC:=Lib.hid h0
  clear h0
  by_cases h1 : 8192 < s.vars
  ·have w1 : decide (8192 < s.vars) = true:=decide_eq_true h1
   have HB:=Lib.hid h1
   clear h1
   go_wp2_with fail
   go_ret
   exact ⟨ret_int (by unfold colC; rw [if_neg (by simpa using HC.out),if_pos HB.out]),H1.out⟩
  ·have w1 : decide (8192 < s.vars) = false:=decide_eq_false h1
   have HB:=Lib.hid h1
   clear h1
   go_wp2_with fail
   go_ret
   exact ⟨ret_int (by unfold colC; rw [if_neg (by simpa using HC.out),if_neg (by have:=HB.out; omega)]),H1.out⟩
 ·have w0 : (chkG s != 0) = true:=by simpa using h0
  have HC:=Lib.hid h0
  clear h0
  generalize hcd : chkG s = code at *
  have HCD:=Lib.hid hcd
  clear hcd
  go_wp2_with fail
  go_ret
  exact ⟨ret_int (by unfold colC; rw [HCD.out,if_pos HC.out]),H1.out⟩
end Go.Proofs.YtgblfjccccdidaaGreat
end
section
namespace Go.Dfl.N
open Go.Dfl
structure Mk where
 i : Nat
 d : Nat
 s : Nat
 val : Nat→Value
 Is : Nat→World→Nat→Prop
structure Mk.At (m : Mk) (P : Program) (ops : Array Oper) (base : Nat) (a0 : Act) : Prop where
 kept : ∀ w w' b,m.Is base w b→w.grownBy w' none→m.Is base w' b
 op : ∃ o,ops[m.i]? = some o∧o.dst = some m.d∧∀ (a : Act) (w : World) (Q : Exit→Act→World→Prop),a.eval (.tmp m.s) = a0.eval (.tmp m.s)→base ≤ w.heap.size→(∀ w',m.Is base w' w.heap.size→w.grownBy w' none→w.heap.size < w'.heap.size→wpList P ops Q [] (a.put o.dst (m.val w.heap.size)) w')→wpList P ops Q [o] a w
def mkS (i d s : Nat) (e : TypeId) (n : Nat) (z : Value) (size : Nat) : Mk:=⟨i,d,s,fun b => .slice (some ⟨b,0,none⟩) n n,fun base w b => w.ownsRow base e size (.slice (some ⟨b,0,none⟩) n n) n (madeCells z.cells (n * size)).toList⟩
def mkA (i d s : Nat) (t : TypeId) (cs : Array Value) : Mk:=⟨i,d,s,fun b => .pointer (some ⟨b,0,none⟩),fun _ w b => w.heap[b]? = some (.cells cs t)⟩
theorem mkS_at {P : Program} {ops : Array Oper} {base : Nat} {a0 : Act} {i d s : Nat} {t e : TypeId} {n : Nat} {z : Value} {size by8 : Nat} (hof : SliceOf P t e z size by8) (hop : ∃ o,ops[i]? = some o∧o.guard = none∧o.op = .makeSlice t (.tmp s) (.tmp s)∧o.dst = some d) (b1 : by8 * n ≤ 281474976710656) (b2 : n ≤ maxLen) (ev : a0.eval (.tmp s) = .int .i64 (n : Int)) : (mkS i d s e n z size).At P ops base a0:=by
 refine ⟨fun w w' b h hg => World.ownsRow.kept h hg (by right; simp [Value.ownBlock]), ?_⟩
 obtain ⟨hund,i0,hi0,hz0,hz1,hz2⟩:=hof
 obtain ⟨o,ho,hg,hop,hdst⟩:=hop
 refine ⟨o,ho,hdst,fun a w Q hev hbase hK => ?_⟩
 have hev2 : a.eval (.tmp s) = .int .i64 (n : Int):=by rw [← ev]; exact hev
 refine wpList_make_full w hg (.tmp s) (.tmp s) t hop base e i0 z size hund hi0 hz0 hz1 .i64 .i64 n n n hev2 hev2 rfl rfl (by rw [hz2]; exact b1) b2 hbase fun w' how hgr => hK w' how hgr ?_
 exact (World.ownsRow.lt how w.heap.size rfl).2
theorem mkA_at {P : Program} {ops : Array Oper} {base : Nat} {a0 : Act} {i d s : Nat} {t : TypeId} {z : Value} (hiz : (P.info? t).bind (fun i => i.zero) = some z) (hop : ∃ o,ops[i]? = some o∧o.guard = none∧o.op = .alloc t∧o.dst = some d) : (mkA i d s t z.cells).At P ops base a0:=by
 obtain ⟨inf,hi,hz⟩:=Option.bind_eq_some_iff.1 hiz
 refine ⟨fun w w' b h hg => ?_, ?_⟩
 ·have hb : b < w.heap.size:=(Array.getElem?_eq_some_iff.1 h).1
  show w'.heap[b]? = _
  rw [hg.block b hb (by simp)]; exact h
 ·obtain ⟨o,ho,hg,hop,hdst⟩:=hop
  refine ⟨o,ho,hdst,fun a w Q _ _ hK => ?_⟩
  have hrun : (Instr.alloc t true (.tuple #[])).run P w = .ok (.pointer (some ⟨w.heap.size,0,none⟩)) (w.alloc (.cells z.cells t)):=by
   simp [Instr.alloc,zeroValue,typeInfo,hi,hz,newVar]
   first | done | rfl
  refine wpList_plain hg fun K hK' => ?_
  unfold Oper.wp
  simp only [execOp,hop,Sem.run_bind,Sem.run_pure,hrun,Result.andThen_ok]
  exact hK' _ _ (hK _ (heap_alloc_new _ _) (grownBy_alloc _ _) (by rw [World.size_alloc]; omega))
def putAll (done : Nat→Option Nat) : List Mk→Act→Act
 | [],a => a
 | m :: ms,a => putAll done ms (match done m.i with | some b => a.put (some m.d) (m.val b) | none => a)
def lstAll (done : Nat→Option Nat) : List Mk→Array Bool→Array Bool
 | [],l => l
 | m :: ms,l => lstAll done ms (if (done m.i).isSome then l.setIfInBounds m.i true else l)
def undone (done : Nat→Option Nat) : List Mk→List Nat
 | [] => []
 | m :: ms => if (done m.i).isSome then undone done ms else m.i :: undone done ms
def makesB (ops : Array Oper) : List Nat→Array Bool→List Nat→Bool
 | [],listed,rem => rem.isEmpty || decide (Region.ready .any ops listed = rem)
 | i :: is,listed,rem => makesB ops is (listed.setIfInBounds i true) rem && makesB ops is listed (rem ++ [i])
theorem makesB_spec {ops : Array Oper} (done : Nat→Option Nat) : ∀ (ms : List Mk) (listed : Array Bool) (rem : List Nat),makesB ops (ms.map (·.i)) listed rem = true→rem ++ undone done ms ≠ []→Region.ready .any ops (lstAll done ms listed) = rem ++ undone done ms
 | [],listed,rem,h,hne => by
   simp only [List.map_nil,makesB,Bool.or_eq_true,List.isEmpty_iff,decide_eq_true_eq] at h
   simp only [undone,List.append_nil] at hne ⊢
   rcases h with h | h
   ·exact absurd h hne
   ·exact h
 | m :: ms,listed,rem,h,hne => by
   simp only [List.map_cons,makesB,Bool.and_eq_true] at h
   simp only [undone,lstAll] at hne ⊢
   cases hd : (done m.i).isSome with
   | true =>
     simp only [hd,if_true] at hne ⊢
     exact makesB_spec done ms _ rem h.1 hne
   | false =>
     simp only [hd] at hne ⊢
     have:=makesB_spec done ms listed (rem ++ [m.i]) h.2 (by simp)
     simpa using this
def setDone (done : Nat→Option Nat) (i b : Nat) : Nat→Option Nat:=fun j => if j = i then some b else done j
theorem lstAll_set (done : Nat→Option Nat) (i : Nat) : ∀ (ms : List Mk) (l : Array Bool),lstAll done ms (l.setIfInBounds i true) = (lstAll done ms l).setIfInBounds i true
 | [],l => rfl
 | m :: ms,l => by
   simp only [lstAll]
   split
   ·by_cases e : m.i = i
    ·subst e
     rw [← lstAll_set done m.i ms]
    ·rw [Array.setIfInBounds_comm _ _ (Ne.symm e),lstAll_set done i ms]
   ·exact lstAll_set done i ms l
theorem lstAll_other {done : Nat→Option Nat} {i b : Nat} : ∀ {ms : List Mk} (l : Array Bool),(∀ m ∈ ms,m.i ≠ i)→lstAll (setDone done i b) ms l = lstAll done ms l
 | [],l,_ => rfl
 | m :: ms,l,h => by
   have hm:=h m (by simp)
   simp only [lstAll,setDone,hm,if_false]
   exact lstAll_other _ fun x hx => h x (by simp [hx])
theorem lstAll_done {done : Nat→Option Nat} {i b : Nat} : ∀ {ms : List Mk} {l : Array Bool},(∃ m ∈ ms,m.i = i)→lstAll (setDone done i b) ms l = (lstAll done ms l).setIfInBounds i true
 | [],l,h => by obtain ⟨m,hm, -⟩:=h; cases hm
 | m :: ms,l,h => by
   simp only [lstAll]
   by_cases hms : ∃ m ∈ ms,m.i = i
   ·by_cases e : m.i = i
    ·subst e
     rw [lstAll_done hms]
     simp only [setDone,if_true,Option.isSome_some]
     rw [lstAll_set]
     split
     ·rw [lstAll_set]
     ·apply Array.ext (by simp); intro j h1 h2; simp
    ·rw [lstAll_done hms]
     simp only [setDone,e,if_false]
   ·obtain ⟨m',hm',e⟩:=h
    rcases List.mem_cons.1 hm' with rfl | hm'
    ·subst e
     rw [lstAll_other _ fun x hx e => hms ⟨x,hx,e⟩]
     simp only [setDone,if_true,Option.isSome_some]
     rw [lstAll_set]
     split
     ·rw [lstAll_set]; apply Array.ext (by simp); intro j h1 h2; simp
     ·rfl
    ·exact absurd ⟨m',hm',e⟩ hms
theorem put_comm (a : Act) {d d' : Nat} (h : d ≠ d') (v v' : Value) : (a.put (some d) v).put (some d') v' = (a.put (some d') v').put (some d) v:=by
 simp only [Act.put]
 rw [Array.setIfInBounds_comm _ _ h]
theorem putAll_put (done : Nat→Option Nat) (d : Nat) (v : Value) : ∀ (ms : List Mk) (a : Act),(∀ m ∈ ms,m.d ≠ d)→putAll done ms (a.put (some d) v) = (putAll done ms a).put (some d) v
 | [],a,_ => rfl
 | m :: ms,a,h => by
   simp only [putAll]
   cases done m.i with
   | none => exact putAll_put done d v ms a fun x hx => h x (by simp [hx])
   | some b =>
     simp only []
     rw [put_comm _ (Ne.symm (h m (by simp))),putAll_put done d v ms _ fun x hx => h x (by simp [hx])]
theorem putAll_other {done : Nat→Option Nat} {i b : Nat} : ∀ {ms : List Mk} (a : Act),(∀ m ∈ ms,m.i ≠ i)→putAll (setDone done i b) ms a = putAll done ms a
 | [],a,_ => rfl
 | m :: ms,a,h => by
   have hm:=h m (by simp)
   simp only [putAll,setDone,hm,if_false]
   exact putAll_other _ fun x hx => h x (by simp [hx])
theorem putAll_done {done : Nat→Option Nat} {b : Nat} {m : Mk} : ∀ {ms : List Mk} (a : Act),ms.Pairwise (fun x y => x.i ≠ y.i∧x.d ≠ y.d)→m ∈ ms→done m.i = none→putAll (setDone done m.i b) ms a = (putAll done ms a).put (some m.d) (m.val b)
 | [],a,_,hm,_ => by cases hm
 | x :: ms,a,hp,hm,hn => by
   rw [List.pairwise_cons] at hp
   by_cases e : x = m
   ·subst e
    simp only [putAll,hn]
    have h1 : setDone done x.i b x.i = some b:=by simp [setDone]
    rw [h1]
    simp only []
    rw [putAll_other _ fun y hy => Ne.symm (hp.1 y hy).1,putAll_put _ _ _ _ _ fun y hy => Ne.symm (hp.1 y hy).2]
   ·have hm' : m ∈ ms:=by
     rcases List.mem_cons.1 hm with h | h
     ·exact absurd h.symm e
     ·exact h
    have hne:=(hp.1 m hm').1
    simp only [putAll]
    have h1 : setDone done m.i b x.i = done x.i:=by simp [setDone,hne]
    rw [h1]
    exact putAll_done _ hp.2 hm' hn
theorem eval_putAll (done : Nat→Option Nat) (s : Nat) : ∀ (ms : List Mk) (a : Act),(∀ m ∈ ms,m.d ≠ s)→(putAll done ms a).eval (.tmp s) = a.eval (.tmp s)
 | [],a,_ => rfl
 | m :: ms,a,h => by
   simp only [putAll]
   rw [eval_putAll done s ms _ fun x hx => h x (by simp [hx])]
   cases done m.i with
   | none => rfl
   | some b =>
     have:=h m (by simp)
     simp [Act.put,Act.eval,Array.getD_eq_getD_getElem?,this]
theorem undone_mem {done : Nat→Option Nat} {i : Nat} : ∀ {ms : List Mk},i ∈ undone done ms→∃ m ∈ ms,m.i = i∧done i = none
 | [],h => by cases h
 | m :: ms,h => by
   simp only [undone] at h
   cases hd : done m.i with
   | some b =>
     simp only [hd,Option.isSome_some,if_true] at h
     obtain ⟨x,hx,e⟩:=undone_mem h
     exact ⟨x,by simp [hx],e⟩
   | none =>
     simp only [hd,Option.isSome_none] at h
     rcases List.mem_cons.1 h with rfl | h
     ·exact ⟨m,by simp,rfl,hd⟩
     ·obtain ⟨x,hx,e⟩:=undone_mem h
      exact ⟨x,by simp [hx],e⟩
theorem undone_nil {done : Nat→Option Nat} : ∀ {ms : List Mk},undone done ms = []→∀ m ∈ ms, ∃ b,done m.i = some b
 | [],_,m,hm => by cases hm
 | x :: ms,h,m,hm => by
   simp only [undone] at h
   cases hd : done x.i with
   | some b =>
     simp only [hd,Option.isSome_some,if_true] at h
     rcases List.mem_cons.1 hm with rfl | hm
     ·exact ⟨b,hd⟩
     ·exact undone_nil h m hm
   | none => simp [hd] at h
theorem undone_len {done : Nat→Option Nat} {b : Nat} {m : Mk} : ∀ {ms : List Mk},ms.Pairwise (fun x y => x.i ≠ y.i∧x.d ≠ y.d)→m ∈ ms→done m.i = none→(undone (setDone done m.i b) ms).length + 1 = (undone done ms).length
 | [],_,hm,_ => by cases hm
 | x :: ms,hp,hm,hn => by
   rw [List.pairwise_cons] at hp
   have hoth : ∀ (l : List Mk),(∀ y ∈ l,y.i ≠ m.i)→undone (setDone done m.i b) l = undone done l:=by
    intro l
    induction l with
    | nil => intro _; rfl
    | cons y l ih =>
      intro hl
      have hy:=hl y (by simp)
      simp only [undone,setDone,hy,if_false]
      rw [ih fun z hz => hl z (by simp [hz])]
   by_cases e : x = m
   ·subst e
    simp only [undone,hn,Option.isSome_none]
    have h1 : setDone done x.i b x.i = some b:=by simp [setDone]
    rw [h1,hoth ms fun y hy => Ne.symm (hp.1 y hy).1]
    simp
   ·have hm' : m ∈ ms:=by
     rcases List.mem_cons.1 hm with h | h
     ·exact absurd h.symm e
     ·exact h
    have hne:=(hp.1 m hm').1
    have h1 : setDone done m.i b x.i = done x.i:=by simp [setDone,hne]
    have ih:=undone_len (b:=b) hp.2 hm' hn
    simp only [undone,h1]
    split
    ·exact ih
    ·simp; omega
section
variable {P : Program} {ops : Array Oper} {Q : Exit→Act→World→Prop} {S : World→Prop}
structure MakesInv (ms : List Mk) (base : Nat) (w0 : World) (done : Nat→Option Nat) (w : World) : Prop where
 is : ∀ m ∈ ms, ∀ b,done m.i = some b→m.Is base w b∧w0.heap.size ≤ b∧b < w.heap.size
 apart : ∀ m ∈ ms, ∀ m' ∈ ms,m.i ≠ m'.i→∀ b,done m.i = some b→done m'.i ≠ some b
 grown : w0.grownBy w none
theorem makes_any {ms : List Mk} {listed : Array Bool} {a0 : Act} {w0 : World} {fuel : Nat} (base : Nat) (hbase : base ≤ w0.heap.size) (hms : ∀ m ∈ ms,m.At P ops base a0) (hd : ms.Pairwise (fun x y => x.i ≠ y.i∧x.d ≠ y.d)) (hs : ∀ m ∈ ms, ∀ m' ∈ ms,m'.d ≠ m.s)
  (hB : makesB ops (ms.map (·.i)) listed [] = true) (hSk : ∀ w w',w.grownBy w' none→S w→S w')
  (K : ∀ done w',MakesInv ms base w0 done w'→(∀ m ∈ ms, ∃ b,done m.i = some b)→S w'→wpAnyH P .any ops (NoPanic Q) S fuel (lstAll done ms listed) (putAll done ms a0) w') :
  ∀ (n : Nat) (done : Nat→Option Nat) (w : World),(undone done ms).length = n→MakesInv ms base w0 done w→S w→wpAnyH P .any ops (NoPanic Q) S (n + fuel) (lstAll done ms listed) (putAll done ms a0) w:=by
 intro n
 induction n with
 | zero =>
   intro done w hn hI hS
   rw [Nat.zero_add]
   exact K done w hI (undone_nil (by simpa using hn)) hS
 | succ n ih =>
   intro done w hn hI hS
   have hne : undone done ms ≠ []:=fun e => by simp [e] at hn
   have hr:=makesB_spec done ms listed [] hB (by simpa using hne)
   rw [List.nil_append] at hr
   rw [show n + 1 + fuel = (n + fuel) + 1 by omega]
   refine wpAnyH_all hr hne fun i hi => ?_
   obtain ⟨m,hm,rfl,hnone⟩:=undone_mem hi
   obtain ⟨hkept,o,ho,hdst,hop⟩:=hms m hm
   refine wpOp_of_then ho ?_
   refine hop _ w _ (eval_putAll _ _ _ _ fun x hx => hs m hm x hx) (Nat.le_trans hbase hI.grown.size) ?_
   intro w' how hgr hlt
   have hS':=hSk _ _ hgr hS
   have hI' : MakesInv ms base w0 (setDone done m.i w.heap.size) w':=by
    refine ⟨fun x hx b hb => ?_,fun x hx y hy hne b hb hb' => ?_,grownBy_trans hI.grown hgr⟩
    ·by_cases e : x.i = m.i
     ·have hxm : x = m:=by
       false_or_by_contra
       rename_i hne
       have : ∀ l : List Mk,l.Pairwise (fun x y => x.i ≠ y.i∧x.d ≠ y.d)→x ∈ l→m ∈ l→False:=by
        intro l
        induction l with
        | nil => intro _ h; cases h
        | cons z l ih =>
          intro hp h1 h2
          rw [List.pairwise_cons] at hp
          rcases List.mem_cons.1 h1 with rfl | h1
          ·rcases List.mem_cons.1 h2 with h2 | h2
           ·exact hne h2.symm
           ·exact (hp.1 m h2).1 e
          ·rcases List.mem_cons.1 h2 with h2 | h2
           ·subst h2; exact (hp.1 x ‹_›).1 e.symm
           ·exact ih hp.2 ‹_› h2
       exact this ms hd hx hm
      subst hxm
      simp [setDone] at hb
      subst hb
      exact ⟨how,hI.grown.size,hlt⟩
     ·simp [setDone,e] at hb
      obtain ⟨h1,h2,h3⟩:=hI.is x hx b hb
      exact ⟨(hms x hx).kept _ _ _ h1 hgr,h2,Nat.lt_of_lt_of_le h3 hgr.size⟩
    ·by_cases e : x.i = m.i
     ·have e' : y.i ≠ m.i:=fun h => hne (e.trans h.symm)
      simp [setDone,e] at hb
      simp [setDone,e'] at hb'
      have:=(hI.is y hy b hb').2.2
      omega
     ·simp [setDone,e] at hb
      by_cases e' : y.i = m.i
      ·simp [setDone,e'] at hb'
       have:=(hI.is x hx b hb).2.2
       omega
      ·simp [setDone,e'] at hb'
       exact hI.apart x hx y hy hne b hb hb'
   have:=ih (setDone done m.i w.heap.size) w' (by have:=undone_len (b:=w.heap.size) hd hm hnone; omega) hI' hS'
   rw [lstAll_done ⟨m,hm,rfl⟩,putAll_done _ hd hm hnone] at this
   rw [hdst]
   exact ⟨hS',this⟩
def mkHB (ops : Array Oper) (ms ts : List Nat) : List Nat→Array Bool→Bool
 | [],listed => makesB ops ms listed [] && tailHB ops ts (ms.foldl (fun l i => l.setIfInBounds i true) listed)
 | i :: is,listed => (Region.ready .any ops listed).contains i && Region.free .any ops listed i && mkHB ops ms ts is (listed.setIfInBounds i true)
def makesHB (ops : Array Oper) (hs ms ts : List Nat) : Bool:=Region.noSelect ops && mkHB ops ms ts hs (Array.replicate ops.size false)
theorem lstAll_all {done : Nat→Option Nat} : ∀ {ms : List Mk} {l : Array Bool},(∀ m ∈ ms, ∃ b,done m.i = some b)→lstAll done ms l = (ms.map (·.i)).foldl (fun l i => l.setIfInBounds i true) l
 | [],l,_ => rfl
 | m :: ms,l,h => by
   obtain ⟨b,hb⟩:=h m (by simp)
   simp only [lstAll,hb,Option.isSome_some,if_true,List.map_cons,List.foldl_cons]
   exact lstAll_all fun x hx => h x (by simp [hx])
theorem putAll_map {done : Nat→Option Nat} : ∀ {ms : List Mk} {a : Act},(∀ m ∈ ms, ∃ b,done m.i = some b)→putAll done ms a = ms.foldl (fun a m => a.put (some m.d) (m.val ((done m.i).getD 0))) a
 | [],a,_ => rfl
 | m :: ms,a,h => by
   obtain ⟨b,hb⟩:=h m (by simp)
   simp only [putAll,hb,List.foldl_cons,Option.getD_some]
   exact putAll_map fun x hx => h x (by simp [hx])
structure MakesEnd (ms : List Mk) (base : Nat) (w0 : World) (bs : Nat→Nat) (w : World) : Prop where
 is : ∀ m ∈ ms,m.Is base w (bs m.i)∧w0.heap.size ≤ bs m.i∧bs m.i < w.heap.size
 apart : ∀ m ∈ ms, ∀ m' ∈ ms,m.i ≠ m'.i→bs m.i ≠ bs m'.i
 grown : w0.grownBy w none
theorem makes_heads {ms : List Mk} {ts : List Nat} {w0 : World} (base : Nat) (hbase : base ≤ w0.heap.size) (hd : ms.Pairwise (fun x y => x.i ≠ y.i∧x.d ≠ y.d)) (hs : ∀ m ∈ ms, ∀ m' ∈ ms,m'.d ≠ m.s) (hsel : Region.noSelect ops = true) (hSk : ∀ w w',w.grownBy w' none→S w→S w') : ∀ (is : List Nat) (listed : Array Bool) (a : Act),mkHB ops (ms.map (·.i)) ts is listed = true→S w0 →
  wpHeads P ops S (fun a' => (∀ m ∈ ms,m.At P ops base a')∧∀ bs w',MakesEnd ms base w0 bs w'→S w'→wpTailsH P ops S Q ts (ms.foldl (fun a m => a.put (some m.d) (m.val (bs m.i))) a') w') is a →
  wpAnyH P .any ops (NoPanic Q) S (is.length + (ms.length + ts.length)) listed a w0
 | [],listed,a,hB,hS,h => by
   simp only [mkHB,Bool.and_eq_true] at hB
   rw [List.length_nil,Nat.zero_add]
   have hund : (undone (fun _ => none) ms).length = ms.length:=by
    clear h hB hd hs
    induction ms with
    | nil => rfl
    | cons m ms ih => simp [undone] at ih ⊢; exact ih
   have h0 : putAll (fun _ => none) ms a = a:=by
    clear h hB hd hs hund
    induction ms with
    | nil => rfl
    | cons m ms ih => simpa [putAll] using ih
   have h1 : lstAll (fun _ => none) ms listed = listed:=by
    clear h hB hd hs hund h0
    induction ms with
    | nil => rfl
    | cons m ms ih => simpa [lstAll] using ih
   have:=makes_any (P:=P) (ops:=ops) (Q:=Q) (S:=S) (ms:=ms) (listed:=listed) (a0:=a) (w0:=w0) (fuel:=ts.length) base hbase h.1 hd hs hB.1 hSk
    (fun done w' hI hall hS' => by
     rw [lstAll_all hall,putAll_map hall]
     refine wpAnyH_tails ts _ _ w' hB.2 (h.2 (fun i => (done i).getD 0) w' ⟨fun m hm => ?_,fun m hm m' hm' hne => ?_,hI.grown⟩ hS')
     ·obtain ⟨b,hb⟩:=hall m hm
      have:=hI.is m hm b hb
      simpa [hb] using this
     ·obtain ⟨b,hb⟩:=hall m hm
      obtain ⟨b',hb'⟩:=hall m' hm'
      have:=hI.apart m hm m' hm' hne b hb
      simp only [hb,hb',Option.getD_some]
      rintro rfl
      exact this hb')
    ms.length (fun _ => none) w0 hund ⟨fun m hm b (hb : (none : Option Nat) = some b) => (nomatch hb),fun m hm m' hm' _ b (hb : (none : Option Nat) = some b) => (nomatch hb),grownBy_refl _ _⟩ hS
   rwa [h0,h1] at this
 | i :: is,listed,a,hB,hS,h => by
   simp only [mkHB,Bool.and_eq_true] at hB
   obtain ⟨⟨hr,hf⟩,hB⟩:=hB
   obtain ⟨o,ho,v,hy,h⟩:=h
   rw [List.length_cons,show is.length + 1 + (ms.length + ts.length) = (is.length + (ms.length + ts.length)) + 1 by omega]
   exact wpAnyH_take ho hsel hf hr (fun c a w h => h) hy hS (makes_heads base hbase hd hs hsel hSk is _ _ hB hS h)
theorem wp_region_makes {id : Nat} {a : Act} {w : World} {l : List Oper} (hs : List Nat) (ms : List Mk) (ts : List Nat) (S : World→Prop) (base : Nat) (hbase : base ≤ w.heap.size) (hm : P.follows .mixedOrders = true) (hd : ms.Pairwise (fun x y => x.i ≠ y.i∧x.d ≠ y.d)) (hsd : ∀ m ∈ ms, ∀ m' ∈ ms,m'.d ≠ m.s)
  (hB : makesHB l.toArray hs (ms.map (·.i)) ts = true) (hl : hs.length + (ms.length + ts.length) = l.length) (hSk : ∀ w w',w.grownBy w' none→S w→S w') (hS : S w.drew)
  (h : wpHeads P l.toArray S (fun a' => (∀ m ∈ ms,m.At P l.toArray base a')∧∀ bs w',MakesEnd ms base w.drew bs w'→S w'→wpTailsH P l.toArray S Q ts (ms.foldl (fun a m => a.put (some m.d) (m.val (bs m.i))) a') w') hs a) : (Code.region id l.toArray true).wp P Q a w:=by
 refine wp_region_noPanic (wp_region_held (S:=S) hm ?_)
 simp only [makesHB,Bool.and_eq_true] at hB
 have:=makes_heads (P:=P) (Q:=Q) (S:=S) (w0:=w.drew) base hbase hd hsd hB.1 hSk hs _ a hB.2 hS h
 rw [hl] at this
 rw [show l.toArray.size = l.length by simp] at this ⊢
 exact this
end
end Go.Dfl.N
namespace Go.Dfl.N
open Go.Dfl
theorem MakesInv.step {ops : Array Oper} {P : Program} {a0 : Act} {ms : List Mk} {base : Nat} {w0 w w' : World} {done : Nat→Option Nat} (hms : ∀ m ∈ ms,m.At P ops base a0) (hd : ms.Pairwise (fun x y => x.i ≠ y.i∧x.d ≠ y.d)) {m : Mk} (hm : m ∈ ms) (hI : MakesInv ms base w0 done w) (how : m.Is base w' w.heap.size) (hgr : w.grownBy w' none) (hlt : w.heap.size < w'.heap.size) : MakesInv ms base w0 (setDone done m.i w.heap.size) w':=by
 refine ⟨fun x hx b hb => ?_,fun x hx y hy hne b hb hb' => ?_,grownBy_trans hI.grown hgr⟩
 ·by_cases e : x.i = m.i
  ·have hxm : x = m:=by
    false_or_by_contra
    rename_i hne
    have : ∀ l : List Mk,l.Pairwise (fun x y => x.i ≠ y.i∧x.d ≠ y.d)→x ∈ l→m ∈ l→False:=by
     intro l
     induction l with
     | nil => intro _ h; cases h
     | cons z l ih =>
       intro hp h1 h2
       rw [List.pairwise_cons] at hp
       rcases List.mem_cons.1 h1 with rfl | h1
       ·rcases List.mem_cons.1 h2 with h2 | h2
        ·exact hne h2.symm
        ·exact (hp.1 m h2).1 e
       ·rcases List.mem_cons.1 h2 with h2 | h2
        ·subst h2; exact (hp.1 x ‹_›).1 e.symm
        ·exact ih hp.2 ‹_› h2
    exact this ms hd hx hm
   subst hxm
   simp [setDone] at hb
   subst hb
   exact ⟨how,hI.grown.size,hlt⟩
  ·simp [setDone,e] at hb
   obtain ⟨h1,h2,h3⟩:=hI.is x hx b hb
   exact ⟨(hms x hx).kept _ _ _ h1 hgr,h2,Nat.lt_of_lt_of_le h3 hgr.size⟩
 ·by_cases e : x.i = m.i
  ·have e' : y.i ≠ m.i:=fun h => hne (e.trans h.symm)
   simp [setDone,e] at hb
   simp [setDone,e'] at hb'
   have:=(hI.is y hy b hb').2.2
   omega
  ·simp [setDone,e] at hb
   by_cases e' : y.i = m.i
   ·simp [setDone,e'] at hb'
    have:=(hI.is x hx b hb).2.2
    omega
   ·simp [setDone,e'] at hb'
    exact hI.apart x hx y hy hne b hb hb'
def fullC (ch D : List Nat) : Bool:=D.all fun i => ch.contains i
def full (done : Nat→Option Nat) (D : List Nat) : Bool:=D.all fun i => (done i).isSome
def makesRB (ops : Array Oper) (j : Nat) (D : List Nat) : List Nat→Array Bool→List Nat→List Nat→Bool
 | [],l,rem,ch => if fullC ch D then (Region.ready .any ops l).contains j && Region.free .any ops l j && (rem.isEmpty || decide (Region.ready .any ops (l.setIfInBounds j true) = rem)) else (!rem.isEmpty) && decide (Region.ready .any ops l = rem)
 | i :: is,l,rem,ch => makesRB ops j D is (l.setIfInBounds i true) rem (i :: ch) && makesRB ops j D is l (rem ++ [i]) ch
def chAll (done : Nat→Option Nat) : List Mk→List Nat→List Nat
 | [],ch => ch
 | m :: ms,ch => chAll done ms (if (done m.i).isSome then m.i :: ch else ch)
theorem mem_chAll {done : Nat→Option Nat} {i : Nat} : ∀ {ms : List Mk} {ch : List Nat},i ∈ chAll done ms ch ↔ i ∈ ch ∨ ((∃ m ∈ ms,m.i = i)∧(done i).isSome = true)
 | [],ch => by simp [chAll]
 | m :: ms,ch => by
   simp only [chAll]
   rw [mem_chAll]
   constructor
   ·rintro (h | ⟨⟨x,hx,e⟩,h⟩)
    ·split at h
     ·rename_i hs
      rcases List.mem_cons.1 h with rfl | h
      ·exact .inr ⟨⟨m,by simp,rfl⟩,hs⟩
      ·exact .inl h
     ·exact .inl h
    ·exact .inr ⟨⟨x,by simp [hx],e⟩,h⟩
   ·rintro (h | ⟨⟨x,hx,e⟩,h⟩)
    ·refine .inl ?_
     split
     ·simp [h]
     ·exact h
    ·rcases List.mem_cons.1 hx with rfl | hx
     ·subst e; exact .inl (by rw [if_pos h]; simp)
     ·exact .inr ⟨⟨x,hx,e⟩,h⟩
theorem fullC_eq {done : Nat→Option Nat} {ms : List Mk} {D : List Nat} (hD : ∀ i ∈ D, ∃ m ∈ ms,m.i = i) : fullC (chAll done ms []) D = full done D:=by
 unfold fullC full
 rw [Bool.eq_iff_iff,List.all_eq_true,List.all_eq_true]
 refine ⟨fun h i hi => ?_,fun h i hi => ?_⟩
 ·have h1:=h i hi
  rw [List.contains_iff_mem,mem_chAll] at h1
  rcases h1 with h1 | h1
  ·cases h1
  ·exact h1.2
 ·rw [List.contains_iff_mem,mem_chAll]
  exact .inr ⟨hD i hi,h i hi⟩
theorem makesRB_spec {ops : Array Oper} {j : Nat} {D : List Nat} (done : Nat→Option Nat) : ∀ (ms : List Mk) (l : Array Bool) (rem ch : List Nat),makesRB ops j D (ms.map (·.i)) l rem ch = true →
  (fullC (chAll done ms ch) D = true→(Region.ready .any ops (lstAll done ms l)).contains j = true∧Region.free .any ops (lstAll done ms l) j = true∧(rem ++ undone done ms ≠ []→Region.ready .any ops ((lstAll done ms l).setIfInBounds j true) = rem ++ undone done ms)) ∧
  (fullC (chAll done ms ch) D = false→rem ++ undone done ms ≠ []∧Region.ready .any ops (lstAll done ms l) = rem ++ undone done ms)
 | [],l,rem,ch,h => by
   simp only [List.map_nil,makesRB] at h
   simp only [undone,List.append_nil,lstAll,chAll]
   refine ⟨fun hf => ?_,fun hf => ?_⟩
   ·rw [if_pos hf] at h
    simp only [Bool.and_eq_true,Bool.or_eq_true,List.isEmpty_iff,decide_eq_true_eq] at h
    exact ⟨h.1.1,h.1.2,fun hne => h.2.resolve_left hne⟩
   ·rw [hf] at h
    simp only [Bool.false_eq_true,if_false,Bool.and_eq_true,Bool.not_eq_true',decide_eq_true_eq] at h
    exact ⟨fun e => by rw [e] at h; simp at h,h.2⟩
 | m :: ms,l,rem,ch,h => by
   simp only [List.map_cons,makesRB,Bool.and_eq_true] at h
   simp only [undone,lstAll,chAll]
   cases hd : (done m.i).isSome with
   | true =>
     simp only [if_true]
     exact makesRB_spec done ms _ rem _ h.1
   | false =>
     have:=makesRB_spec done ms l (rem ++ [m.i]) ch h.2
     simpa using this
theorem eval_put_ne (a : Act) {d s : Nat} (h : d ≠ s) (v : Value) : (a.put (some d) v).eval (.tmp s) = a.eval (.tmp s):=by
 simp [Act.put,Act.eval,Array.getD_eq_getD_getElem?,h]
theorem eval_put_same (a : Act) {d : Nat} (h : d < a.tmps.size) (v : Value) : (a.put (some d) v).eval (.tmp d) = v:=by
 simp [Act.put,Act.eval,Array.getD_eq_getD_getElem?,h]
theorem put_size (a : Act) (d : Nat) (v : Value) : (a.put (some d) v).tmps.size = a.tmps.size:=by simp [Act.put]
theorem putAll_size (done : Nat→Option Nat) : ∀ (ms : List Mk) (a : Act),(putAll done ms a).tmps.size = a.tmps.size
 | [],a => rfl
 | m :: ms,a => by
   simp only [putAll]
   rw [putAll_size done ms]
   cases done m.i with
   | none => rfl
   | some b => exact put_size _ _ _
theorem eval_done {done : Nat→Option Nat} {m : Mk} {b : Nat} (hb : done m.i = some b) : ∀ {ms : List Mk} {a : Act},ms.Pairwise (fun x y => x.i ≠ y.i∧x.d ≠ y.d)→m ∈ ms→m.d < a.tmps.size→(putAll done ms a).eval (.tmp m.d) = m.val b
 | [],a,_,hm,_ => by cases hm
 | x :: ms,a,hp,hm,hs => by
   rw [List.pairwise_cons] at hp
   simp only [putAll]
   rcases List.mem_cons.1 hm with rfl | hm
   ·rw [eval_putAll done _ ms _ fun y hy => Ne.symm (hp.1 y hy).2,hb]
    exact eval_put_same _ hs _
   ·refine eval_done hb hp.2 hm ?_
    cases done x.i with
    | none => exact hs
    | some c => rw [put_size]; exact hs
section
variable {P : Program} {ops : Array Oper} {Q : Exit→Act→World→Prop} {S : World→Prop}
theorem makesR_any {ms : List Mk} {listed : Array Bool} {a0 : Act} {w0 : World} {fuel : Nat} (base : Nat) (hbase : base ≤ w0.heap.size) (hms : ∀ m ∈ ms,m.At P ops base a0) (hd : ms.Pairwise (fun x y => x.i ≠ y.i∧x.d ≠ y.d)) (hs : ∀ m ∈ ms, ∀ m' ∈ ms,m'.d ≠ m.s)
  {j ds : Nat} {D : List Nat} {V : (Nat→Nat)→Value} {oj : Oper} (hB : makesRB ops j D (ms.map (·.i)) listed [] [] = true) (hD : ∀ i ∈ D, ∃ m ∈ ms,m.i = i) (hsel : Region.noSelect ops = true) (hoj : ops[j]? = some oj) (hdst : oj.dst = some ds) (hds : ∀ m ∈ ms,m.d ≠ ds∧ds ≠ m.s)
  (hsz : ∀ m ∈ ms,m.d < a0.tmps.size) (hV : ∀ b b' : Nat→Nat,(∀ i ∈ D,b i = b' i)→V b = V b') (hY : ∀ (b : Nat→Nat) (a' : Act),(∀ m ∈ ms,m.i ∈ D→a'.eval (.tmp m.d) = m.val (b m.i))→a'.tmps.size = a0.tmps.size→YieldsIf P ops S oj (V b) a')
  (hSk : ∀ w w',w.grownBy w' none→S w→S w')
  (K : ∀ done w',MakesInv ms base w0 done w'→(∀ m ∈ ms, ∃ b,done m.i = some b)→S w'→wpAnyH P .any ops (NoPanic Q) S fuel ((lstAll done ms listed).setIfInBounds j true) ((putAll done ms a0).put (some ds) (V fun i => (done i).getD 0)) w') :
  ∀ (n : Nat) (done : Nat→Option Nat) (w : World),(undone done ms).length = n→MakesInv ms base w0 done w→S w →
   (full done D = false→wpAnyH P .any ops (NoPanic Q) S (n + fuel + 1) (lstAll done ms listed) (putAll done ms a0) w) ∧
   (full done D = true→wpAnyH P .any ops (NoPanic Q) S (n + fuel) ((lstAll done ms listed).setIfInBounds j true) ((putAll done ms a0).put (some ds) (V fun i => (done i).getD 0)) w):=by
 intro n
 induction n with
 | zero =>
   intro done w hn hI hS
   have hall:=undone_nil (List.eq_nil_of_length_eq_zero hn)
   refine ⟨fun hf => ?_,fun _ => by rw [Nat.zero_add]; exact K done w hI hall hS⟩
   have : full done D = true:=by
    unfold full
    rw [List.all_eq_true]
    intro i hi
    obtain ⟨m,hm,rfl⟩:=hD i hi
    obtain ⟨b,hb⟩:=hall m hm
    rw [hb]; rfl
   rw [this] at hf; cases hf
 | succ n ih =>
   intro done w hn hI hS
   have hne : undone done ms ≠ []:=fun e => by simp [e] at hn
   obtain ⟨s1,s2⟩:=makesRB_spec done ms listed [] [] hB
   rw [fullC_eq hD,List.nil_append] at s1 s2
   refine ⟨fun hf => ?_,fun hf => ?_⟩
   ·rw [show n + 1 + fuel + 1 = (n + fuel + 1) + 1 by omega]
    refine wpAnyH_all (s2 hf).2 hne fun i hi => ?_
    obtain ⟨m,hm,rfl,hnone⟩:=undone_mem hi
    obtain ⟨hkept,o,ho,hdst2,hop⟩:=hms m hm
    refine wpOp_of_then ho ?_
    refine hop _ w _ (eval_putAll _ _ _ _ fun x hx => hs m hm x hx) (Nat.le_trans hbase hI.grown.size) ?_
    intro w' how hgr hlt
    have hS':=hSk _ _ hgr hS
    have hI':=hI.step hms hd hm how hgr hlt
    obtain ⟨r1,r2⟩:=ih (setDone done m.i w.heap.size) w' (by have:=undone_len (b:=w.heap.size) hd hm hnone; omega) hI' hS'
    refine ⟨hS', ?_⟩
    rw [hdst2, ← putAll_done (b:=w.heap.size) _ hd hm hnone, ← lstAll_done (b:=w.heap.size) ⟨m,hm,rfl⟩]
    cases hf2 : full (setDone done m.i w.heap.size) D
    ·exact r1 hf2
    ·obtain ⟨t1, -⟩:=makesRB_spec (setDone done m.i w.heap.size) ms listed [] [] hB
     rw [fullC_eq hD,List.nil_append] at t1
     obtain ⟨t2,t3, -⟩:=t1 hf2
     refine wpAnyH_take hoj hsel t3 t2 (fun c a w h => h) (hY (fun i => ((setDone done m.i w.heap.size) i).getD 0) _ (fun x hx hxD => ?_) (putAll_size _ _ _)) hS' (by rw [hdst]; exact r2 hf2)
     unfold full at hf2
     rw [List.all_eq_true] at hf2
     obtain ⟨b,hb⟩:=Option.isSome_iff_exists.1 (hf2 _ hxD)
     rw [eval_done hb hd hx (hsz x hx),hb]; rfl
   ·rw [show n + 1 + fuel = (n + fuel) + 1 by omega]
    refine wpAnyH_all ((s1 hf).2.2 hne) hne fun i hi => ?_
    obtain ⟨m,hm,rfl,hnone⟩:=undone_mem hi
    obtain ⟨hkept,o,ho,hdst2,hop⟩:=hms m hm
    refine wpOp_of_then ho ?_
    refine hop _ w _ (by rw [eval_put_ne _ (hds m hm).2]; exact eval_putAll _ _ _ _ fun x hx => hs m hm x hx) (Nat.le_trans hbase hI.grown.size) ?_
    intro w' how hgr hlt
    have hS':=hSk _ _ hgr hS
    have hI':=hI.step hms hd hm how hgr hlt
    obtain ⟨-,r2⟩:=ih (setDone done m.i w.heap.size) w' (by have:=undone_len (b:=w.heap.size) hd hm hnone; omega) hI' hS'
    refine ⟨hS', ?_⟩
    have hfD : ∀ i ∈ D,(done i).isSome = true:=by unfold full at hf; rw [List.all_eq_true] at hf; exact hf
    have hDi : ∀ i ∈ D,setDone done m.i w.heap.size i = done i:=fun i hi => by
     unfold setDone
     rw [if_neg]
     rintro rfl
     have:=hfD _ hi
     rw [hnone] at this; cases this
    have hf2 : full (setDone done m.i w.heap.size) D = true:=by
     unfold full
     rw [List.all_eq_true]
     exact fun i hi => by rw [hDi i hi]; exact hfD i hi
    have hjm : j ≠ m.i ∨ j = m.i:=by omega
    have r3:=r2 hf2
    rw [hV _ (fun i => (done i).getD 0) (fun i hi => by rw [hDi i hi]),putAll_done _ hd hm hnone,lstAll_done ⟨m,hm,rfl⟩,put_comm _ (hds m hm).1] at r3
    rw [hdst2]
    rcases hjm with hjm | hjm
    ·rw [Array.setIfInBounds_comm _ _ hjm]; exact r3
    ·rw [hjm] at r3 ⊢; exact r3
def mkHRB (ops : Array Oper) (j : Nat) (D ms ts : List Nat) : List Nat→Array Bool→Bool
 | [],listed => makesRB ops j D ms listed [] [] && tailHB ops ts ((ms.foldl (fun l i => l.setIfInBounds i true) listed).setIfInBounds j true)
 | i :: is,listed => (Region.ready .any ops listed).contains i && Region.free .any ops listed i && mkHRB ops j D ms ts is (listed.setIfInBounds i true)
def makesHRB (ops : Array Oper) (j : Nat) (D hs ms ts : List Nat) : Bool:=Region.noSelect ops && mkHRB ops j D ms ts hs (Array.replicate ops.size false)
structure RdAt (ms : List Mk) (P : Program) (ops : Array Oper) (S : World→Prop) (j ds : Nat) (D : List Nat) (V : (Nat→Nat)→Value) (a0 : Act) : Prop where
 op : ∃ oj,ops[j]? = some oj∧oj.dst = some ds∧∀ (b : Nat→Nat) (a' : Act),(∀ m ∈ ms,m.i ∈ D→a'.eval (.tmp m.d) = m.val (b m.i))→a'.tmps.size = a0.tmps.size→YieldsIf P ops S oj (V b) a'
 sz : ∀ m ∈ ms,m.d < a0.tmps.size
theorem makesR_heads {ms : List Mk} {ts : List Nat} {w0 : World} (base : Nat) (hbase : base ≤ w0.heap.size) (hd : ms.Pairwise (fun x y => x.i ≠ y.i∧x.d ≠ y.d)) (hs : ∀ m ∈ ms, ∀ m' ∈ ms,m'.d ≠ m.s) (hsel : Region.noSelect ops = true) (hSk : ∀ w w',w.grownBy w' none→S w→S w')
  {j ds : Nat} {D : List Nat} {V : (Nat→Nat)→Value} (hD0 : D ≠ []) (hD : ∀ i ∈ D, ∃ m ∈ ms,m.i = i) (hds : ∀ m ∈ ms,m.d ≠ ds∧ds ≠ m.s) (hV : ∀ b b' : Nat→Nat,(∀ i ∈ D,b i = b' i)→V b = V b') : ∀ (is : List Nat) (listed : Array Bool) (a : Act),mkHRB ops j D (ms.map (·.i)) ts is listed = true→S w0 →
  wpHeads P ops S (fun a' => (∀ m ∈ ms,m.At P ops base a')∧RdAt ms P ops S j ds D V a'∧∀ bs w',MakesEnd ms base w0 bs w'→S w'→wpTailsH P ops S Q ts ((ms.foldl (fun a m => a.put (some m.d) (m.val (bs m.i))) a').put (some ds) (V bs)) w') is a →
  wpAnyH P .any ops (NoPanic Q) S (is.length + (ms.length + ts.length + 1)) listed a w0
 | [],listed,a,hB,hS,h => by
   simp only [mkHRB,Bool.and_eq_true] at hB
   rw [List.length_nil,Nat.zero_add]
   have hund : (undone (fun _ => none) ms).length = ms.length:=by
    clear h hB hd hs hD hds
    induction ms with
    | nil => rfl
    | cons m ms ih => simp [undone] at ih ⊢; exact ih
   have h0 : putAll (fun _ => none) ms a = a:=by
    clear h hB hd hs hund hD hds
    induction ms with
    | nil => rfl
    | cons m ms ih => simpa [putAll] using ih
   have h1 : lstAll (fun _ => none) ms listed = listed:=by
    clear h hB hd hs hund h0 hD hds
    induction ms with
    | nil => rfl
    | cons m ms ih => simpa [lstAll] using ih
   obtain ⟨⟨oj,hoj,hdst,hY⟩,hsz⟩:=h.2.1
   have:=(makesR_any (P:=P) (ops:=ops) (Q:=Q) (S:=S) (ms:=ms) (listed:=listed) (a0:=a) (w0:=w0) (fuel:=ts.length) base hbase h.1 hd hs (V:=V) hB.1 hD hsel hoj hdst hds hsz hV hY hSk
    (fun done w' hI hall hS' => by
     rw [lstAll_all hall,putAll_map hall]
     refine wpAnyH_tails ts _ _ w' hB.2 (h.2.2 (fun i => (done i).getD 0) w' ⟨fun m hm => ?_,fun m hm m' hm' hne => ?_,hI.grown⟩ hS')
     ·obtain ⟨b,hb⟩:=hall m hm
      have:=hI.is m hm b hb
      simpa [hb] using this
     ·obtain ⟨b,hb⟩:=hall m hm
      obtain ⟨b',hb'⟩:=hall m' hm'
      have:=hI.apart m hm m' hm' hne b hb
      simp only [hb,hb',Option.getD_some]
      rintro rfl
      exact this hb')
    ms.length (fun _ => none) w0 hund ⟨fun m hm b (hb : (none : Option Nat) = some b) => (nomatch hb),fun m hm m' hm' _ b (hb : (none : Option Nat) = some b) => (nomatch hb),grownBy_refl _ _⟩ hS).1 (by
     cases D with
     | nil => exact absurd rfl hD0
     | cons x D => rfl)
   rwa [h0,h1] at this
 | i :: is,listed,a,hB,hS,h => by
   simp only [mkHRB,Bool.and_eq_true] at hB
   obtain ⟨⟨hr,hf⟩,hB⟩:=hB
   obtain ⟨o,ho,v,hy,h⟩:=h
   rw [List.length_cons,show is.length + 1 + (ms.length + ts.length + 1) = (is.length + (ms.length + ts.length + 1)) + 1 by omega]
   exact wpAnyH_take ho hsel hf hr (fun c a w h => h) hy hS (makesR_heads base hbase hd hs hsel hSk hD0 hD hds hV is _ _ hB hS h)
theorem wp_region_makesR {id : Nat} {a : Act} {w : World} {l : List Oper} (hs : List Nat) (ms : List Mk) (j ds : Nat) (D : List Nat) (V : (Nat→Nat)→Value) (ts : List Nat) (S : World→Prop) (base : Nat) (hbase : base ≤ w.heap.size) (hm : P.follows .mixedOrders = true) (hd : ms.Pairwise (fun x y => x.i ≠ y.i∧x.d ≠ y.d)) (hsd : ∀ m ∈ ms, ∀ m' ∈ ms,m'.d ≠ m.s)
  (hD0 : D ≠ []) (hD : ∀ i ∈ D, ∃ m ∈ ms,m.i = i) (hds : ∀ m ∈ ms,m.d ≠ ds∧ds ≠ m.s) (hV : ∀ b b' : Nat→Nat,(∀ i ∈ D,b i = b' i)→V b = V b')
  (hB : makesHRB l.toArray j D hs (ms.map (·.i)) ts = true) (hl : hs.length + (ms.length + ts.length + 1) = l.length) (hSk : ∀ w w',w.grownBy w' none→S w→S w') (hS : S w.drew)
  (h : wpHeads P l.toArray S (fun a' => (∀ m ∈ ms,m.At P l.toArray base a')∧RdAt ms P l.toArray S j ds D V a'∧∀ bs w',MakesEnd ms base w.drew bs w'→S w'→wpTailsH P l.toArray S Q ts ((ms.foldl (fun a m => a.put (some m.d) (m.val (bs m.i))) a').put (some ds) (V bs)) w') hs a) : (Code.region id l.toArray true).wp P Q a w:=by
 refine wp_region_noPanic (wp_region_held (S:=S) hm ?_)
 simp only [makesHRB,Bool.and_eq_true] at hB
 have:=makesR_heads (P:=P) (Q:=Q) (S:=S) (w0:=w.drew) base hbase hd hsd hB.1 hSk hD0 hD hds hV hs _ a hB.2 hS h
 rw [hl] at this
 rw [show l.toArray.size = l.length by simp] at this ⊢
 exact this
end
end Go.Dfl.N
namespace Go.Dfl
open Go.RowKit
section
variable {α : Type} {f : α→Value} {e eo : TypeId} {w w3 : World} {base n cap : Nat} {s : Option Addr} {vs : List Value} {ll : List (List α)}
theorem OwnN.at' (h : OwnN (fun w base v (l : List α) => Own f w base e v l) w base eo (.slice s n cap) vs ll) {c : Nat} (hc : c < ll.length) : (Value.slice s n cap).ownBlock = some (blk s)∧base ≤ blk s∧blk s < w.heap.size:=by
 have hob : (Value.slice s n cap).ownBlock = some (blk s):=by
  obtain ⟨a2,c2,he, -, -,h3⟩:=h.out.lst
  simp only [Value.slice.injEq] at he
  obtain ⟨rfl, -,rfl⟩:=he
  rw [(h3 c (by rw [h.len]; exact hc)).1]; rfl
 exact ⟨hob,h.foot (Kind.own f e) _ (.inl hob)⟩
theorem OwnN.app (h : OwnN (fun w base v (l : List α) => Own f w base e v l) w base eo (.slice s n cap) vs ll) {c : Nat} (hc : c < ll.length) {o : Obj} {v' : Value} {l' : List α} (hown : Own f w3 base e v' l')
  (hgr : (w.alloc o).grownBy w3 (nth vs c).ownBlock) (hat : v'.ownBlock = (nth vs c).ownBlock ∨ v'.ownBlock = some (w.alloc o).heap.size) (hcell : w.cell? ⟨blk s,ofs s + c,none⟩ = some (nth vs c)) :
  w3.cell? ⟨blk s,ofs s + c,none⟩ = some (nth vs c)∧w3.frozen? ⟨blk s,ofs s + c,none⟩ = false ∧
   OwnN (fun w base v (l : List α) => Own f w base e v l) (w3.setCell ⟨blk s,ofs s + c,none⟩ v') base eo (.slice s n cap) (vs.set c v') (ll.set c l') ∧
   ∀ W1,Below base W1 w→Below base W1 (w3.setCell ⟨blk s,ofs s + c,none⟩ v'):=by
 have hK : Kind (fun w base v (l : List α) => Own f w base e v l):=Kind.own f e
 have hA:=h.alloc hK o
 obtain ⟨hob,hb1,hb2⟩:=h.at' hc
 have hvl:=h.len
 refine ⟨?_, ?_, ?_,fun W1 hb => ?_⟩
 ·exact hgr.cell ((grownBy_alloc w o).cell hcell (by simp)) (fun e9 => h.apart c hc _ e9.symm hob)
 ·exact (hA.outAt hc hgr).frozen (by omega) _
 ·exact hA.put hK hc hgr hown (fun q hq => by
   rcases hat with e9 | e9
   ·left; rw [← e9,hq]
   ·right; rw [e9] at hq; have:=Option.some.inj hq; omega)
 ·have h0:=hb.alloc (by omega) o
  have h1:=h0.grown hgr (by rw [World.size_alloc]; omega) (fun q e9 => (hK.lt (hA.inn c hc) q e9).1)
  exact h1.setCell (p:=⟨blk s,ofs s + c,none⟩) hb1 v'
end
structure Fld {α : Type} (f : α→Value) (e : TypeId) (b j B : Nat) (l : List α) (W : World) : Prop where
 ex : ∃ v,W.cell? ⟨b,j,none⟩ = some v∧Own f W B e v l
 frz : W.frozen? ⟨b,j,none⟩ = false
 lt : b < B
section
variable {α : Type} {f : α→Value} {e : TypeId} {b j B : Nat} {l l' : List α} {W W' w3 : World}
theorem Fld.in (h : Fld f e b j B l W) : b < W.heap.size:=by
 obtain ⟨v,h1, -⟩:=h.ex
 exact World.block_lt_of_cell? _ _ h1
theorem Fld.grown (h : Fld f e b j B l W) {row : Option Nat} (hg : W.grownBy W' row) (hr : ∀ k,row = some k→k ≠ b∧∀ v,W.cell? ⟨b,j,none⟩ = some v→v.ownBlock ≠ some k) : Fld f e b j B l W':=by
 obtain ⟨v,h1,h2⟩:=h.ex
 have hne : some b ≠ row:=fun e => (hr b e.symm).1 rfl
 refine ⟨⟨v,hg.cell h1 hne,h2.grown hg ?_⟩, ?_,h.lt⟩
 ·cases e9 : v.ownBlock with
  | none => exact .inl rfl
  | some k => exact .inr fun e2 => (hr k e2.symm).2 v h1 e9
 ·rw [World.frozen?_of_block (a:=⟨b,j,none⟩) (hg.block b h.in hne)]; exact h.frz
theorem Fld.app (h : Fld f e b j B l W) {v v' : Value} {o : Obj} (hv : W.cell? ⟨b,j,none⟩ = some v) (hown : Own f w3 B e v' l') (hgr : (W.alloc o).grownBy w3 v.ownBlock) :
  w3.cell? ⟨b,j,none⟩ = some v∧w3.frozen? ⟨b,j,none⟩ = false∧Fld f e b j B l' (w3.setCell ⟨b,j,none⟩ v')∧(∀ k u,k ≠ j→W.cell? ⟨b,k,none⟩ = some u→(w3.setCell ⟨b,j,none⟩ v').cell? ⟨b,k,none⟩ = some u) ∧
   (∀ A W1,Below A W1 W→A ≤ b→Below A W1 (w3.setCell ⟨b,j,none⟩ v')):=by
 obtain ⟨v0,h1,h2⟩:=h.ex
 obtain rfl : v0 = v:=Option.some.inj (h1.symm.trans hv)
 have hlt:=h.in
 have hne : some b ≠ v0.ownBlock:=fun e9 => by have:=(h2.lt b e9.symm).1; have:=h.lt; omega
 have hA:=grownBy_alloc W o
 have c3:=hgr.cell (hA.cell hv (by simp)) hne
 have f3 : w3.frozen? ⟨b,j,none⟩ = false:=by
  rw [World.frozen?_of_block (a:=⟨b,j,none⟩) ((hgr.block b (by rw [World.size_alloc]; omega) hne).trans (hA.block b hlt (by simp)))]; exact h.frz
 have hne' : v'.ownBlock ≠ some b:=fun e9 => by have:=(hown.lt b e9).1; have:=h.lt; omega
 refine ⟨c3,f3,⟨⟨v',World.cell?_setCell_same _ _ _ (by rw [c3]),hown.setOther hne' _⟩,by rw [World.frozen?_setCell]; exact f3,h.lt⟩,fun k u hk hu => ?_,fun A W1 hb hA1 => ?_⟩
 ·rw [World.cell?_setCell_other _ _ _ _ (by intro e9; have h9:=congrArg Addr.off e9; first | exact hk h9 | exact hk h9.symm)]
  exact hgr.cell (hA.cell hu (by simp)) hne
 ·have hs:=hb.size
  exact ((hb.alloc (by omega) o).grown hgr (by rw [World.size_alloc]; omega) (fun q e9 => by have:=(h2.lt q e9).1; have:=h.lt; omega)).setCell hA1 v'
end
end Go.Dfl
end
section
namespace Go.Proofs.YtgblfjccccdidaaGreat
open Go.RowKit Go.Dfl Go.Gra
theorem own_int {w : World} {base n : Nat} {s : Option Addr} {cap : Nat} {l : List Int} (h : OwnI w base 3 (.slice s n cap) l) (hl : l.length = n) {x : Nat} (hx : x < n) :
  w.cell? ⟨blk s,ofs s + x,none⟩ = some (.int .i64 (nth l x))∧(∀ Y,(Instr.indexAt 32 (.slice s n cap) (.int .i64 (x : Int))).run Tryz.prog Y = .ok (.pointer (some ⟨blk s,ofs s + x,none⟩)) Y)∧w.frozen? ⟨blk s,ofs s + x,none⟩ = false:=by
 obtain ⟨a9,c9,he,hm9,hidx,hcell, -⟩:=h.lst.out1 sIntG
 rw [hl] at he hm9 hidx hcell
 simp only [Value.slice.injEq] at he
 obtain ⟨rfl, -,rfl⟩:=he
 exact ⟨hcell x hx,fun Y => by have:=hidx .i64 (x : Int) (by omega) (by omega) Y; rw [Int.toNat_natCast] at this; exact this,h.frozen (by omega) _⟩
theorem own_blkG {w : World} {base n : Nat} {s : Option Addr} {cap : Nat} {l : List Int} (h : OwnI w base 3 (.slice s n cap) l) (hl : l.length = n) (hn : 0 < n) : (Value.slice s n cap).ownBlock = some (blk s):=by
 obtain ⟨-,⟨h2,h3⟩ | ⟨q,cap2,cur,hv, -⟩⟩:=h
 ·rw [hl] at h3; omega
 ·simp only [Value.slice.injEq] at hv
  obtain ⟨rfl, -, -⟩:=hv; rfl
structure KhP (W3 : World) (B4 n pc nc : Nat) (ps ns : Option Addr) (P : List Int) (vs : List Value) (ll : List (List Int)) (W : World) : Prop where
 pend : OwnI W W3.heap.size 3 (.slice ps n pc) P
 plen : P.length = n
 pb : ∀ q,(Value.slice ps n pc).ownBlock = some q→q < B4
 rows : OwnN IIg W B4 32 (.slice ns n nc) vs ll
 llen : ll.length = n
 bel : Below W3.heap.size W3 W
 siz : W3.heap.size ≤ B4
section
variable {W3 : World} {B4 n pc nc : Nat} {ps ns : Option Addr} {P : List Int} {vs : List Value} {ll : List (List Int)} {W W' w3 : World}
theorem KhP.below (h : KhP W3 B4 n pc nc ps ns P vs ll W) (hb : Below W.heap.size W W') : KhP W3 B4 n pc nc ps ns P vs ll W':=⟨h.pend.below hb,h.plen,h.pb,h.rows.below kIIg hb,h.llen,h.bel.trans (hb.mono h.bel.size),h.siz⟩
theorem KhP.set (h : KhP W3 B4 n pc nc ps ns P vs ll W) {b : Nat} (hb : b < n) (x : Int) : KhP W3 B4 n pc nc ps ns (P.set b x) vs ll (W.setCell ⟨blk ps,ofs ps + b,none⟩ (.int .i64 x)):=by
 have hob:=own_blkG h.pend h.plen (by omega)
 have h1:=h.pb _ hob
 have h2:=h.pend.lt _ hob
 refine ⟨h.pend.set b x,by rw [List.length_set]; exact h.plen,h.pb,h.rows.grown kIIg (grownBy_setCell W ⟨blk ps,ofs ps + b,none⟩ _) (fun k e hf => ?_),h.llen,h.bel.setCell (p:=⟨blk ps,ofs ps + b,none⟩) h2.1 _,h.siz⟩
 have h3:=(h.rows.foot kIIg k hf).1
 have:=Option.some.inj e
 dsimp only at this
 omega
theorem KhP.push (h : KhP W3 B4 n pc nc ps ns P vs ll W) {c : Nat} (hc : c < n) {o : Obj} {v' : Value} {l' : List Int} (hown : OwnI w3 B4 3 v' l')
  (hgr : (W.alloc o).grownBy w3 (nth vs c).ownBlock) (hat : v'.ownBlock = (nth vs c).ownBlock ∨ v'.ownBlock = some (W.alloc o).heap.size) (hcell : W.cell? ⟨blk ns,ofs ns + c,none⟩ = some (nth vs c)) :
  w3.cell? ⟨blk ns,ofs ns + c,none⟩ = some (nth vs c)∧w3.frozen? ⟨blk ns,ofs ns + c,none⟩ = false∧KhP W3 B4 n pc nc ps ns P (vs.set c v') (ll.set c l') (w3.setCell ⟨blk ns,ofs ns + c,none⟩ v'):=by
 have hcl : c < ll.length:=by rw [h.llen]; exact hc
 obtain ⟨a1,a2,a3,a4⟩:=h.rows.app hcl hown hgr hat hcell
 obtain ⟨b1,b2,b3⟩:=h.rows.at' hcl
 have hpne : ∀ q,(nth vs c).ownBlock = some q→B4 ≤ q:=fun q e => (kIIg.lt (h.rows.inn c hcl) q e).1
 refine ⟨a1,a2,⟨?_,h.plen,h.pb,a3,by rw [List.length_set]; exact h.llen, ?_,h.siz⟩⟩
 ·refine Go.Dfl.Own.setOther ?_ (fun e => by have:=h.pb _ e; dsimp only at this; omega) _
  refine Go.Dfl.Own.grown (h.pend.alloc o) hgr ?_
  cases e1 : (Value.slice ps n pc).ownBlock with
  | none => exact .inl rfl
  | some q =>
    refine .inr fun e2 => ?_
    have:=h.pb q e1
    have:=hpne q e2.symm
    omega
 ·have hs:=h.bel.size
  have h0:=h.bel.alloc hs o
  have h1:=h0.grown hgr (by rw [World.size_alloc]; omega) (fun q e => by have:=hpne q e; have:=h.siz; omega)
  exact h1.setCell (p:=⟨blk ns,ofs ns + c,none⟩) (by have:=h.siz; show W3.heap.size ≤ blk ns; omega) v'
end
section
variable {W3 : World} {B4 B6 n pc nc : Nat} {ps ns : Option Addr} {P : List Int} {vs : List Value} {ll : List (List Int)} {o : List Nat} {ov : Value} {W W' w3 : World}
end
end Go.Proofs.YtgblfjccccdidaaGreat
end
section
namespace Go.Dfl
open Go.RowKit
theorem Own.cutRest {α : Type} [Inhabited α] {f : α→Value} {P : Program} {t e : TypeId} {z : Value} {by8 : Nat} {w : World} {base : Nat} {v : Value} {l : List α} (ht : SliceOf P t e z 1 by8) (h : Own f w base e v l) {k : Nat} (hk : k < l.length) :
  ∃ a c,(∀ (ik : IntKind) (W : World),(Instr.slice t v (some (.int ik (k : Int))) none none).run P W = .ok (.slice a (l.length - k) c) W)∧v.ownBlock = some (blk a)∧∀ Z,Own f Z base e v l→Lst f Z (.slice a (l.length - k) c) (l.drop k):=by
 obtain ⟨i,hi,_,hs,_⟩:=ht.info
 have hlt : (l.drop k).length = l.length - k:=by simp
 obtain ⟨h1,⟨rfl,h2⟩ | ⟨g,cap,cur,rfl,hg,hh,hc,hm,hsz,htk⟩⟩:=h
 ·omega
 ·refine ⟨some ⟨g,k,none⟩,cap - k,fun ik W => ?_,rfl,fun Z ho => ?_⟩
  ·have h1' : k ≤ l.length:=by omega
   have hck : ¬ cap = k:=by omega
   have hce : P.cellsOf e = 1:=by simp [Program.cellsOf,hi,hs]
   simp [Instr.slice,run_underlying ht.und,Instr.sliceBounds,Instr.sliceBound,asIntOf,h1',run_sizeOf _ hi,Addr.add,hck,hce]
   intro h0; simp [h0]
  ·obtain ⟨a2,cap2,he,h3,h4,h5⟩:=ho.lst
   simp only [Value.slice.injEq] at he
   obtain ⟨rfl, -,rfl⟩:=he
   refine ⟨some ⟨g,k,none⟩,cap - k,by rw [hlt],by omega,by omega,fun j hj => ?_⟩
   rw [hlt] at hj
   obtain ⟨-,h6,h7⟩:=h5 (k + j) (by omega)
   refine ⟨rfl,h6,fun q hq => ?_⟩
   have h8:=h7 q hq
   rw [show blk (some (⟨g,k,none⟩ : Addr)) = g from rfl,show ofs (some (⟨g,k,none⟩ : Addr)) = k from rfl]
   rw [show blk (some (⟨g,0,none⟩ : Addr)) = g from rfl,show ofs (some (⟨g,0,none⟩ : Addr)) = 0 from rfl,Nat.zero_add] at h8
   rw [show k + j * 1 + q = (k + j) * 1 + q by omega,h8]
   show some (f (nth l (k + j))) = some (f (nth (l.drop k) j))
   rw [nth_eq _ _ (show k + j < l.length by omega),nth_eq _ _ (show j < (l.drop k).length by rw [hlt]; exact hj),List.getElem_drop]
theorem Own.cutBoth {α : Type} {f : α→Value} {P : Program} {t e : TypeId} {z : Value} {by8 : Nat} {w : World} {base : Nat} {v : Value} {l : List α} (ht : SliceOf P t e z 1 by8) (h : Own f w base e v l) {k : Nat} (hk : k ≤ l.length) :
  ∃ a c,(∀ (ik : IntKind) (W : World),(Instr.slice t v none (some (.int ik (k : Int))) none).run P W = .ok (.slice a k c) W)∧∀ Z,Own f Z base e v l→Own f Z base e (.slice a k c) (l.take k):=by
 obtain ⟨i,hi,_,hs,_⟩:=ht.info
 have hlt : (l.take k).length = k:=by simp; omega
 obtain ⟨h1,⟨rfl,h2⟩ | ⟨g,cap,cur,rfl,hg,hh,hc,hm,hsz,htk⟩⟩:=h
 ·obtain rfl : k = 0:=by omega
  refine ⟨none,0,fun ik W => ?_,fun Z _ => by simpa using Own.nil f Z base e⟩
  simp [Instr.slice,run_underlying ht.und,Instr.sliceBounds,Instr.sliceBound,asIntOf,run_sizeOf _ hi]
 ·refine ⟨some ⟨g,0,none⟩,cap,fun ik W => ?_,fun Z hZ => ?_⟩
  ·have h1' : k ≤ cap:=by omega
   simp [Instr.slice,run_underlying ht.und,Instr.sliceBounds,Instr.sliceBound,asIntOf,h1',run_sizeOf _ hi,Addr.add]
  ·obtain ⟨h1,⟨h2,h3⟩ | ⟨g',cap',cur',hv,hg',hh',hc',hm',hsz',htk'⟩⟩:=hZ
   ·simp at h2
   ·simp only [Value.slice.injEq,Option.some.injEq,Addr.mk.injEq] at hv
    obtain ⟨⟨rfl, -⟩, -,rfl⟩:=hv
    refine ⟨by simp,.inr ⟨g,cap,cur',by rw [hlt],hg',hh',by omega,hm',hsz', ?_⟩⟩
    rw [hlt,List.map_take, ← htk',List.take_take]
    congr 1
    omega
end Go.Dfl
namespace Go.Proofs.YtgblfjccccdidaaGreat
open Go.RowKit Go.Dfl Go.Gra Go.Tj
structure SeL where
 bc : Nat
 bn : Nat
 bl : Nat
 bs : Nat
 bu : Nat
 bf : Nat
 bh : Nat
 sn : Option Addr
 sl : Option Addr
 sh : Option Addr
 cn : Nat
 cl : Nat
 ch : Nat
 su : Option Addr
 cu : Nat
 us : List Value
 B0 : Nat
 B : Nat
 rl : Nat→Nat
 W0 : World
 n : Nat
 ll : List (List Int)
 fv : Value
def castL (l : List Nat) : List Int:=l.map fun x : Nat => (x : Int)
theorem castL_len (l : List Nat) : (castL l).length = l.length:=List.length_map ..
theorem castL_nth {l : List Nat} {i : Nat} (h : i < l.length) : nth (castL l) i = ((nth l i : Nat) : Int):=by
 unfold castL; rw [nth_eq _ _ (by simpa using h),nth_eq _ _ h]; simp
theorem castL_set (l : List Nat) (i x : Nat) : (castL l).set i (x : Int) = castL (l.set i x):=by
 unfold castL; rw [List.map_set]
structure SeS (L : SeL) : Prop where
 kc : L.rl L.bc = 1∧L.bc < L.B∧L.B0 ≤ L.bc
 kn : ∀ q,(Value.slice L.sn L.n L.cn).ownBlock = some q→L.rl q = 2∧q < L.B
 kl : ∀ q,(Value.slice L.sl L.n L.cl).ownBlock = some q→L.rl q = 3∧q < L.B
 kh : ∀ q,(Value.slice L.sh L.n L.ch).ownBlock = some q→L.rl q = 4∧q < L.B
 ks : L.rl L.bs = 5∧L.bs < L.B∧L.B0 ≤ L.bs
 xn : L.W0.cell? ⟨L.bn,0,none⟩ = some (.slice L.sn L.n L.cn)∧L.rl L.bn = 0∧L.bn < L.B
 xl : L.W0.cell? ⟨L.bl,0,none⟩ = some (.slice L.sl L.n L.cl)∧L.rl L.bl = 0∧L.bl < L.B
 xh : L.W0.cell? ⟨L.bh,0,none⟩ = some (.slice L.sh L.n L.ch)∧L.rl L.bh = 0∧L.bh < L.B
 xu : L.W0.cell? ⟨L.bu,0,none⟩ = some (.slice L.su L.n L.cu)∧L.rl L.bu = 0∧L.bu < L.B
 xf : L.W0.cell? ⟨L.bf,0,none⟩ = some L.fv∧L.rl L.bf = 0∧L.bf < L.B
 gr : OwnN IIg L.W0 L.B0 32 (.slice L.su L.n L.cu) L.us L.ll
 gl : L.ll.length = L.n
 gf : ∀ q,Foot (.slice L.su L.n L.cu) L.us q→L.rl q = 0∧q < L.B
 n8 : L.n ≤ 8192
 bb : L.B0 ≤ L.B
structure SeW (L : SeL) (cnt : Nat) (num low : List Nat) (hd : List Int) (stk : List Nat) (W : World) : Prop where
 c : W.cell? ⟨L.bc,0,none⟩ = some (.int .i64 (cnt : Int))
 cf : W.frozen? ⟨L.bc,0,none⟩ = false
 num : OwnI W L.B0 3 (.slice L.sn L.n L.cn) (castL num)
 low : OwnI W L.B0 3 (.slice L.sl L.n L.cl) (castL low)
 hd : OwnI W L.B0 3 (.slice L.sh L.n L.ch) hd
 stk : Fld (Value.int .i64) 3 L.bs 0 L.B (castL stk) W
 imm : ∀ q,q < L.B→L.rl q = 0→W.heap[q]? = L.W0.heap[q]?
 bel : Below L.B0 L.W0 W
 top : L.B ≤ W.heap.size
section
variable {L : SeL} {cnt : Nat} {num low : List Nat} {hd : List Int} {stk : List Nat} {W W' w3 : World} {row : Option Nat}
theorem kArr {v : Value} {l : List Int} {r : Nat} (hv : ∀ q,v.ownBlock = some q→L.rl q = r∧q < L.B) (h : OwnI W L.B0 3 v l) (hg : W.grownBy W' row) (hr : ∀ k,row = some k→k < L.B→L.rl k ≠ r) : OwnI W' L.B0 3 v l:=by
 refine Go.Dfl.Own.grown h hg ?_
 cases e : v.ownBlock with
 | none => exact .inl rfl
 | some q => exact .inr fun e2 => hr q e2.symm (hv q e).2 (hv q e).1
theorem kCell {b j r : Nat} {v : Value} (hb : L.rl b = r∧b < L.B) (h : W.cell? ⟨b,j,none⟩ = some v) (hg : W.grownBy W' row) (hr : ∀ k,row = some k→k < L.B→L.rl k ≠ r) : W'.cell? ⟨b,j,none⟩ = some v :=
 hg.cell h fun e => hr b e.symm hb.2 hb.1
theorem kFrz {b j r : Nat} (hb : L.rl b = r∧b < L.B) (ht : b < W.heap.size) (h : W.frozen? ⟨b,j,none⟩ = false) (hg : W.grownBy W' row) (hr : ∀ k,row = some k→k < L.B→L.rl k ≠ r) : W'.frozen? ⟨b,j,none⟩ = false:=by
 rw [World.frozen?_of_block (a:=⟨b,j,none⟩) (hg.block b ht fun e => hr b e.symm hb.2 hb.1)]; exact h
theorem kImm (h : ∀ q,q < L.B→L.rl q = 0→W.heap[q]? = L.W0.heap[q]?) (ht : L.B ≤ W.heap.size) (hg : W.grownBy W' row) (hr : ∀ k,row = some k→k < L.B→L.rl k ≠ 0) : ∀ q,q < L.B→L.rl q = 0→W'.heap[q]? = L.W0.heap[q]?:=fun q hq h0 => by
 rw [hg.block q (by omega) fun e => hr q e.symm hq h0]; exact h q hq h0
theorem SeW.write (h : SeW L cnt num low hd stk W) (hS : SeS L) {r : Nat} {p : Addr} {x : Value} (hp : p.block < L.B) (hb : L.B0 ≤ p.block) (hr : L.rl p.block = r) (h0 : r ≠ 0) (h5 : r ≠ 5) :
  (r ≠ 1→(W.setCell p x).cell? ⟨L.bc,0,none⟩ = some (.int .i64 (cnt : Int)))∧(W.setCell p x).frozen? ⟨L.bc,0,none⟩ = false∧(r ≠ 2→OwnI (W.setCell p x) L.B0 3 (.slice L.sn L.n L.cn) (castL num))∧(r ≠ 3→OwnI (W.setCell p x) L.B0 3 (.slice L.sl L.n L.cl) (castL low)) ∧
   (r ≠ 4→OwnI (W.setCell p x) L.B0 3 (.slice L.sh L.n L.ch) hd)∧Fld (Value.int .i64) 3 L.bs 0 L.B (castL stk) (W.setCell p x)∧(∀ q,q < L.B→L.rl q = 0→(W.setCell p x).heap[q]? = L.W0.heap[q]?)∧Below L.B0 L.W0 (W.setCell p x)∧L.B ≤ (W.setCell p x).heap.size:=by
 have hg:=grownBy_setCell W p x
 have hne : ∀ r',r ≠ r'→∀ k,some p.block = some k→k < L.B→L.rl k ≠ r':=fun r' hh k e _ e2 => by
  obtain rfl:=Option.some.inj e
  exact hh (hr.symm.trans e2)
 refine ⟨fun h1 => kCell ⟨hS.kc.1,hS.kc.2.1⟩ h.c hg (hne 1 h1),by rw [World.frozen?_setCell]; exact h.cf,fun h1 => kArr hS.kn h.num hg (hne 2 h1),fun h1 => kArr hS.kl h.low hg (hne 3 h1),fun h1 => kArr hS.kh h.hd hg (hne 4 h1),h.stk.grown hg (fun k e => ?_),kImm h.imm h.top hg (hne 0 h0),h.bel.setCell hb x,by rw [World.size_setCell]; exact h.top⟩
 obtain rfl:=Option.some.inj e
 refine ⟨fun e2 => h5 ?_,fun v hv e2 => ?_⟩
 ·rw [← hr,e2]; exact hS.ks.1
 ·obtain ⟨v0,h1,h2⟩:=h.stk.ex
  obtain rfl : v0 = v:=Option.some.inj (h1.symm.trans hv)
  have:=(h2.lt _ e2).1
  omega
theorem SeW.setC (h : SeW L cnt num low hd stk W) (hS : SeS L) (c : Nat) : SeW L c num low hd stk (W.setCell ⟨L.bc,0,none⟩ (.int .i64 (c : Int))):=by
 obtain ⟨a1,a2,a3,a4,a5,a6,a7,a8,a9⟩:=h.write hS (p:=⟨L.bc,0,none⟩) (x:=.int .i64 (c : Int)) hS.kc.2.1 hS.kc.2.2 hS.kc.1 (by decide) (by decide)
 exact ⟨World.cell?_setCell_same _ _ _ h.c,a2,a3 (by decide),a4 (by decide),a5 (by decide),a6,a7,a8,a9⟩
theorem SeW.setN (h : SeW L cnt num low hd stk W) (hS : SeS L) (hl : num.length = L.n) {v : Nat} (hv : v < L.n) (x : Nat) : SeW L cnt (num.set v x) low hd stk (W.setCell ⟨blk L.sn,ofs L.sn + v,none⟩ (.int .i64 (x : Int))):=by
 have ho:=own_blkG h.num (by rw [castL_len]; exact hl) (by omega)
 have hk:=hS.kn _ ho
 obtain ⟨a1,a2,a3,a4,a5,a6,a7,a8,a9⟩:=h.write hS (p:=⟨blk L.sn,ofs L.sn + v,none⟩) (x:=.int .i64 (x : Int)) hk.2 (h.num.lt _ ho).1 hk.1 (by decide) (by decide)
 exact ⟨a1 (by decide),a2,by rw [← castL_set]; exact h.num.set v (x : Int),a4 (by decide),a5 (by decide),a6,a7,a8,a9⟩
theorem SeW.setL (h : SeW L cnt num low hd stk W) (hS : SeS L) (hl : low.length = L.n) {v : Nat} (hv : v < L.n) (x : Nat) : SeW L cnt num (low.set v x) hd stk (W.setCell ⟨blk L.sl,ofs L.sl + v,none⟩ (.int .i64 (x : Int))):=by
 have ho:=own_blkG h.low (by rw [castL_len]; exact hl) (by omega)
 have hk:=hS.kl _ ho
 obtain ⟨a1,a2,a3,a4,a5,a6,a7,a8,a9⟩:=h.write hS (p:=⟨blk L.sl,ofs L.sl + v,none⟩) (x:=.int .i64 (x : Int)) hk.2 (h.low.lt _ ho).1 hk.1 (by decide) (by decide)
 exact ⟨a1 (by decide),a2,a3 (by decide),by rw [← castL_set]; exact h.low.set v (x : Int),a5 (by decide),a6,a7,a8,a9⟩
theorem SeW.setH (h : SeW L cnt num low hd stk W) (hS : SeS L) (hl : hd.length = L.n) {v : Nat} (hv : v < L.n) (x : Int) : SeW L cnt num low (hd.set v x) stk (W.setCell ⟨blk L.sh,ofs L.sh + v,none⟩ (.int .i64 x)):=by
 have ho:=own_blkG h.hd hl (by omega)
 have hk:=hS.kh _ ho
 obtain ⟨a1,a2,a3,a4,a5,a6,a7,a8,a9⟩:=h.write hS (p:=⟨blk L.sh,ofs L.sh + v,none⟩) (x:=.int .i64 x) hk.2 (h.hd.lt _ ho).1 hk.1 (by decide) (by decide)
 exact ⟨a1 (by decide),a2,a3 (by decide),a4 (by decide),h.hd.set v x,a6,a7,a8,a9⟩
theorem SeW.grow (h : SeW L cnt num low hd stk W) (hS : SeS L) (hg : W.grownBy W' none) : SeW L cnt num low hd stk W':=by
 have hn : ∀ r', ∀ k,(none : Option Nat) = some k→k < L.B→L.rl k ≠ r':=fun r' k e => by cases e
 exact ⟨hg.cell h.c (by simp),kFrz ⟨hS.kc.1,hS.kc.2.1⟩ (by have:=hS.kc.2.1; have:=h.top; omega) h.cf hg (hn 1),kArr hS.kn h.num hg (hn 2),kArr hS.kl h.low hg (hn 3),kArr hS.kh h.hd hg (hn 4),h.stk.grown hg (fun k e => by cases e),kImm h.imm h.top hg (hn 0),h.bel.grown hg (by have:=hS.bb; have:=h.top; omega) (fun k e => by cases e),Nat.le_trans h.top hg.size⟩
theorem SeW.below (h : SeW L cnt num low hd stk W) (hS : SeS L) (hb : Below W.heap.size W W') : SeW L cnt num low hd stk W':=h.grow hS (grownBy_below hb)
theorem SeW.box (h : SeW L cnt num low hd stk W) (hS : SeS L) {stk' : List Nat} {v' : Value} (hown : OwnI W L.B 3 v' (castL stk')) : SeW L cnt num low hd stk' (W.setCell ⟨L.bs,0,none⟩ v'):=by
 have hg:=grownBy_setCell W ⟨L.bs,0,none⟩ v'
 have hne : ∀ r',(5 : Nat) ≠ r'→∀ k,some L.bs = some k→k < L.B→L.rl k ≠ r':=fun r' hh k e _ e2 => by
  obtain rfl:=Option.some.inj e
  exact hh (hS.ks.1.symm.trans e2)
 obtain ⟨v0,h1,h2⟩:=h.stk.ex
 refine ⟨kCell ⟨hS.kc.1,hS.kc.2.1⟩ h.c hg (hne 1 (by decide)),by rw [World.frozen?_setCell]; exact h.cf,kArr hS.kn h.num hg (hne 2 (by decide)),kArr hS.kl h.low hg (hne 3 (by decide)),kArr hS.kh h.hd hg (hne 4 (by decide)),⟨⟨v',World.cell?_setCell_same _ _ _ h1,hown.setOther (fun e => ?_) _⟩,by rw [World.frozen?_setCell]; exact h.stk.frz,h.stk.lt⟩,kImm h.imm h.top hg (hne 0 (by decide)),h.bel.setCell hS.ks.2.2 v',by rw [World.size_setCell]; exact h.top⟩
 have h3 : L.B ≤ L.bs:=(hown.lt _ e).1
 have:=hS.ks.2.1
 omega
theorem SeW.grown (h : SeW L cnt num low hd stk W) (hS : SeS L) {v : Value} {o : Obj} (hv : W.cell? ⟨L.bs,0,none⟩ = some v) {stk' : List Nat} {v' : Value} (hown : OwnI w3 L.B 3 v' (castL stk')) (hgr : (W.alloc o).grownBy w3 v.ownBlock) :
  w3.cell? ⟨L.bs,0,none⟩ = some v∧w3.frozen? ⟨L.bs,0,none⟩ = false∧SeW L cnt num low hd stk' (w3.setCell ⟨L.bs,0,none⟩ v'):=by
 obtain ⟨b1,b2,b3,b4,b5⟩:=h.stk.app hv hown hgr
 obtain ⟨v0,h1,h2⟩:=h.stk.ex
 obtain rfl : v0 = v:=Option.some.inj (h1.symm.trans hv)
 have hA:=h.grow hS (grownBy_alloc W o)
 have hq : ∀ k,v0.ownBlock = some k→L.B ≤ k:=fun k e => (h2.lt k e).1
 have hn : ∀ r', ∀ k,v0.ownBlock = some k→k < L.B→L.rl k ≠ r':=fun r' k e hk => by have:=hq k e; omega
 have hg:=grownBy_setCell w3 ⟨L.bs,0,none⟩ v'
 have hne : ∀ r',(5 : Nat) ≠ r'→∀ k,some L.bs = some k→k < L.B→L.rl k ≠ r':=fun r' hh k e _ e2 => by
  obtain rfl:=Option.some.inj e
  exact hh (hS.ks.1.symm.trans e2)
 have ht3 : L.B ≤ w3.heap.size:=Nat.le_trans hA.top hgr.size
 refine ⟨b1,b2,⟨kCell ⟨hS.kc.1,hS.kc.2.1⟩ (kCell ⟨hS.kc.1,hS.kc.2.1⟩ hA.c hgr (hn 1)) hg (hne 1 (by decide)), ?_,kArr hS.kn (kArr hS.kn hA.num hgr (hn 2)) hg (hne 2 (by decide)),kArr hS.kl (kArr hS.kl hA.low hgr (hn 3)) hg (hne 3 (by decide)),kArr hS.kh (kArr hS.kh hA.hd hgr (hn 4)) hg (hne 4 (by decide)),b3,kImm (kImm hA.imm hA.top hgr (hn 0)) ht3 hg (hne 0 (by decide)),b5 _ _ h.bel hS.ks.2.2,by rw [World.size_setCell]; exact ht3⟩⟩
 rw [World.frozen?_setCell]
 exact kFrz ⟨hS.kc.1,hS.kc.2.1⟩ (by have:=hS.kc.2.1; have:=hA.top; omega) hA.cf hgr (hn 1)
theorem SeW.stays (h : SeW L cnt num low hd stk W) {b j : Nat} {v : Value} (hb : L.rl b = 0∧b < L.B) (hv : L.W0.cell? ⟨b,j,none⟩ = some v) : W.cell? ⟨b,j,none⟩ = some v:=by
 rw [World.cell?_of_block (a:=⟨b,j,none⟩) (h.imm b hb.2 hb.1)]; exact hv
theorem SeW.succ (h : SeW L cnt num low hd stk W) (hS : SeS L) : OwnN IIg W L.B0 32 (.slice L.su L.n L.cu) L.us L.ll:=by
 have hown : ∀ (v : Value),(∀ q,v.ownBlock = some q→L.rl q = 0∧q < L.B)→∀ {α : Type} (f : α→Value) (e : TypeId) (l : List α),Go.Dfl.Own f L.W0 L.B0 e v l→Go.Dfl.Own f W L.B0 e v l:=fun v hv α f e l ho => by
  obtain ⟨h1,⟨h2,h3⟩ | ⟨g,cap,cur,hv9,hg,hh,hc,hm,hsz,htk⟩⟩:=ho
  ·exact ⟨h1,.inl ⟨h2,h3⟩⟩
  ·refine ⟨h1,.inr ⟨g,cap,cur,hv9,hg, ?_,hc,hm,hsz,htk⟩⟩
   have hb:=hv g (by rw [hv9]; rfl)
   rw [h.imm g hb.2 hb.1]; exact hh
 refine ⟨hown _ (fun q hq => hS.gf q (.inl hq)) _ _ _ hS.gr.out,hS.gr.len,fun i hi => hown _ (fun q hq => hS.gf q (.inr ⟨i,by rw [hS.gr.len]; exact hi,hq⟩)) _ _ _ (hS.gr.inn i hi),hS.gr.sep,hS.gr.apart⟩
end
end Go.Proofs.YtgblfjccccdidaaGreat
end
section
namespace Go.Proofs.YtgblfjccccdidaaGreat
open Go.RowKit Go.Dfl Go.Gra
def IdxP (l : List Int) (x i : Int) : Prop:=(i = -1∧¬ x ∈ l) ∨ ∃ k : Nat,i = (k : Int)∧k < l.length∧nth l k = x
set_option maxHeartbeats 800000 in
set_option maxRecDepth 100000 in
theorem sIndex_any (v : Value) (l : List Int) (x : Int) (W : World) (h : Ints W v l) : Calls Tryz.prog 130 #[v,.int .i64 x] W fun e W' => (∃ i,e = .returned (.int .i64 i)∧IdxP l x i)∧W' = W:=by
 obtain ⟨a,c,rfl,hm,hi,hc,hb⟩:=h.out1 sIntG
 have HC:=Lib.hid hc
 clear h hc hb
 go_enter Tryz.func130,Tryz.ntmps130
 go_wp2_with fail
 go_loopw [8] (fun s wr => ∃ k : Nat,k ≤ l.length∧s = .int .i64 (k : Int)∧wr = W∧Hid (∀ j,j < k→nth l j ≠ x)) (fun s _ => l.length - (intOf s).toNat)
 case atStart => exact ⟨0,by omega,rfl,rfl,fun j hj => by omega⟩
 case round =>
  obtain ⟨k,hk,rfl,rfl,hh⟩:=hrel
  by_cases hlt : k < l.length
  ·have hkl : (k : Int) < (l.length : Int):=by omega
   have r1:=HC.out k hlt
   have i1:=hi .i64 (k : Int) (by omega) (by omega)
   rw [Int.toNat_natCast] at i1
   obtain ⟨y,hy⟩ : ∃ y,y = nth l k:=⟨_,rfl⟩
   rw [← hy] at r1
   by_cases he : x = y
   ·have w1 : (x == y) = true:=by simpa using he
    have HX : Hid (IdxP l x (k : Int)):=Lib.hid (.inr ⟨k,rfl,hlt,by rw [he,hy]⟩)
    clear he hy
    go_wp2_with fail
    go_ret
    exact ⟨⟨_,rfl,HX.out⟩,rfl⟩
   ·have w1 : (x == y) = false:=by simpa using he
    have HY:=Lib.hid (And.intro he hy)
    clear he hy
    go_wp2_with fail
    go_roundw
    case rel => exact ⟨k + 1,by omega,by go_num,trivial,fun j hj => by
     by_cases e : j = k
     ·rw [e, ← HY.out.2]; exact fun e2 => HY.out.1 e2.symm
     ·exact hh.out j (by omega)⟩
    case measure => simp [intOf]; omega
  ·obtain rfl : k = l.length:=by omega
   have HX : Hid (IdxP l x (-1)):=Lib.hid (.inl ⟨rfl,fun hm9 => by
    obtain ⟨j,hj,he⟩:=mem_nth hm9
    exact hh.out j hj he⟩)
   go_wp2_with fail
   go_ret
   exact ⟨⟨_,rfl,HX.out⟩,rfl⟩
set_option maxHeartbeats 800000 in
set_option maxRecDepth 100000 in
theorem sMin_any (v : Value) (l : List Int) (W : World) (h : Ints W v l) (hl : 0 < l.length) : Calls Tryz.prog 131 #[v] W fun e W' => (∃ m,e = .returned (.int .i64 m)∧m ∈ l∧∀ x ∈ l,m ≤ x)∧W' = W:=by
 obtain ⟨a,c,rfl,hm,hi,hc,hb⟩:=h.out1 sIntG
 have HC:=Lib.hid hc
 have q1 : ¬ (l.length : Int) < 1:=by omega
 have r0:=hc 0 hl
 have i0 : ∀ W,(Instr.indexAt 32 (.slice a l.length c) (.int .i64 0)).run Tryz.prog W = .ok (.pointer (some ⟨blk a,ofs a + 0,none⟩)) W:=fun W => by
  have:=hi .i64 0 (by omega) (by omega) W
  exact this
 rw [Nat.add_zero] at r0 i0
 clear h hc hb
 go_enter Tryz.func131,Tryz.ntmps131
 go_wp2_with fail
 clear r0 i0
 go_loopw [3,4] (fun mv s wr => ∃ (k : Nat) (m : Int),1 ≤ k∧k ≤ l.length∧s = .int .i64 (k : Int)∧mv = .int .i64 m∧wr = W∧Hid ((∃ j,j < k∧m = nth l j)∧∀ j,j < k→m ≤ nth l j)) (fun _ s _ => l.length - (intOf s).toNat)
 case atStart => exact ⟨1,nth l 0,by omega,by omega,rfl,rfl,rfl,⟨0,by omega,rfl⟩,fun j hj => by
  obtain rfl : j = 0:=by omega
  exact Int.le_refl _⟩
 case round =>
  obtain ⟨k,m,hk1,hk,rfl,rfl,rfl,hh⟩:=hrel
  by_cases hlt : k < l.length
  ·have hkl : (k : Int) < (l.length : Int):=by omega
   have r1:=HC.out k hlt
   have i1:=hi .i64 (k : Int) (by omega) (by omega)
   rw [Int.toNat_natCast] at i1
   obtain ⟨y,hy⟩ : ∃ y,y = nth l k:=⟨_,rfl⟩
   rw [← hy] at r1
   have HY:=Lib.hid hy
   clear hy
   go_wp2_with fail
   refine ⟨⟨k + 1,min m y,by omega,by omega,by go_num,rfl,trivial, ?_,fun j hj => ?_⟩,by simp [intOf]; omega⟩
   ·by_cases hmy : m ≤ y
    ·obtain ⟨j,hj,he⟩:=hh.out.1
     exact ⟨j,by omega,by rw [Int.min_eq_left hmy]; exact he⟩
    ·exact ⟨k,by omega,by rw [Int.min_eq_right (by omega)]; exact HY.out⟩
   ·by_cases e : j = k
    ·rw [e, ← HY.out]; exact Int.min_le_right _ _
    ·exact Int.le_trans (Int.min_le_left _ _) (hh.out.2 j (by omega))
  ·obtain rfl : k = l.length:=by omega
   go_wp2_with fail
   go_ret
   refine ⟨⟨m,rfl, ?_,fun x hx => ?_⟩,rfl⟩
   ·obtain ⟨j,hj,he⟩:=hh.out.1
    rw [he]; exact nth_mem _ _ hj
   ·obtain ⟨j,hj,rfl⟩:=mem_nth hx
    exact hh.out.2 j hj
end Go.Proofs.YtgblfjccccdidaaGreat
end
section
namespace Go.Proofs.YtgblfjccccdidaaGreat
open Go.RowKit Go.Dfl Go.Gra Go.Tj
def visV (L : SeL) : Value:=.func (.func 129) #[] #[.pointer (some ⟨L.bc,0,none⟩),.pointer (some ⟨L.bn,0,none⟩),.pointer (some ⟨L.bl,0,none⟩),.pointer (some ⟨L.bs,0,none⟩),.pointer (some ⟨L.bu,0,none⟩),.pointer (some ⟨L.bf,0,none⟩),.pointer (some ⟨L.bh,0,none⟩)]
structure RowsAre (L : SeL) (rw : Nat→List Nat) : Prop where
 eq : ∀ v,v < L.n→nth L.ll v = castL (rw v)
 lt : ∀ v,v < L.n→∀ w ∈ rw v,w < L.n
 fv : L.fv = visV L
def Ev (L : SeL) (rw : Nat→List Nat) (a b : Nat) : Prop:=a < L.n∧b ∈ rw a
def SvR (L : SeL) (rw : Nat→List Nat) (gray : List Nat) (v cnt : Nat) (num low : List Nat) (hd : List Int) (stk : List Nat) (e : Ending) (W' : World) : Prop :=
 e = .returned (.tuple #[])∧∃ cnt' num' low' hd' stk',SeW L cnt' num' low' hd' stk' W'∧TP (Ev L rw) L.n gray v cnt num low hd stk cnt' num' low' hd' stk'
theorem SeW.rdN {L : SeL} {cnt : Nat} {num low : List Nat} {hd : List Int} {stk : List Nat} {W : World} (h : SeW L cnt num low hd stk W) (hl : num.length = L.n) {x : Nat} (hx : x < L.n) :
  W.cell? ⟨blk L.sn,ofs L.sn + x,none⟩ = some (.int .i64 ((nth num x : Nat) : Int))∧(∀ Y,(Instr.indexAt 32 (.slice L.sn L.n L.cn) (.int .i64 (x : Int))).run Tryz.prog Y = .ok (.pointer (some ⟨blk L.sn,ofs L.sn + x,none⟩)) Y)∧W.frozen? ⟨blk L.sn,ofs L.sn + x,none⟩ = false:=by
 obtain ⟨a,b,c⟩:=own_int h.num (by rw [castL_len]; exact hl) hx
 rw [castL_nth (by omega)] at a
 exact ⟨a,b,c⟩
theorem SeW.rdL {L : SeL} {cnt : Nat} {num low : List Nat} {hd : List Int} {stk : List Nat} {W : World} (h : SeW L cnt num low hd stk W) (hl : low.length = L.n) {x : Nat} (hx : x < L.n) :
  W.cell? ⟨blk L.sl,ofs L.sl + x,none⟩ = some (.int .i64 ((nth low x : Nat) : Int))∧(∀ Y,(Instr.indexAt 32 (.slice L.sl L.n L.cl) (.int .i64 (x : Int))).run Tryz.prog Y = .ok (.pointer (some ⟨blk L.sl,ofs L.sl + x,none⟩)) Y)∧W.frozen? ⟨blk L.sl,ofs L.sl + x,none⟩ = false:=by
 obtain ⟨a,b,c⟩:=own_int h.low (by rw [castL_len]; exact hl) hx
 rw [castL_nth (by omega)] at a
 exact ⟨a,b,c⟩
set_option maxHeartbeats 12800000 in
set_option maxRecDepth 100000 in
theorem tvisit_any (L : SeL) (hS : SeS L) (rw : Nat→List Nat) (hR : RowsAre L rw) : ∀ (k v : Nat) (gray : List Nat) (cnt : Nat) (num low : List Nat) (hd : List Int) (stk : List Nat) (W : World),SeW L cnt num low hd stk W→TI (Ev L rw) L.n gray cnt num hd stk→low.length = L.n→v < L.n→nth num v = 0→(∀ z ∈ gray,Rt (Ev L rw) z v)→L.n ≤ cnt + k →
  Calls Tryz.prog 129 #[.int .i64 (v : Int),.pointer (some ⟨L.bc,0,none⟩),.pointer (some ⟨L.bn,0,none⟩),.pointer (some ⟨L.bl,0,none⟩),.pointer (some ⟨L.bs,0,none⟩),.pointer (some ⟨L.bu,0,none⟩),.pointer (some ⟨L.bf,0,none⟩),.pointer (some ⟨L.bh,0,none⟩)] W (SvR L rw gray v cnt num low hd stk):=by
 intro k
 induction k with
 | zero =>
   intro v gray cnt num low hd stk W h hI hl hv h0 hg hk
   have:=hI.clt hv h0
   omega
 | succ k ih =>
   intro v gray cnt num low hd stk W h hI hl hv h0 hg hk
   have hn8:=hS.n8
   have hcn:=hI.clt hv h0
   have henter:=TL.enter (row:=rw v) hI hl hv h0 hg
   have h1:=h.setC hS (cnt + 1)
   have hlN:=hI.lenN
   obtain ⟨n,hn⟩ : ∃ n,n = L.n:=⟨_,rfl⟩
   have HM:=Lib.hid (And.intro henter (And.intro ih (And.intro hk (And.intro hlN hl))))
   have hS0:=Lib.hid hS
   have HR:=Lib.hid hR
   have b1:=h.c
   have f1:=h.cf
   have hw : IntKind.i64.wrap ((cnt : Int) + 1) = (cnt : Int) + 1:=IntWalk.i64_in _ (by omega)
   rw [show ((cnt + 1 : Nat) : Int) = (cnt : Int) + 1 by omega] at h1
   have H1:=Lib.hid h1
   clear henter ih hk hlN hl hI hg hS hR h h1
   go_enter Tryz.func129,Tryz.ntmps129
   go_upto_region 1 with fail
   clear b1 f1 hw
   refine gen_code (fun Z => SeW L (cnt + 1) num low hd stk Z) H1.out ?_
   clear H1
   intro Z hZ
   have HZ:=Lib.hid hZ
   have hd1:=hZ.below hS0.out ((Below.refl _ _).drew)
   obtain ⟨n1,n2,n3⟩:=hd1.rdN HM.out.2.2.2.1 hv
   obtain ⟨l1,l2,l3⟩:=hd1.rdL HM.out.2.2.2.2 hv
   have s1:=hd1.c
   have s2:=hd1.stays ⟨hS0.out.xn.2.1,hS0.out.xn.2.2⟩ hS0.out.xn.1
   have s3:=hd1.stays ⟨hS0.out.xl.2.1,hS0.out.xl.2.2⟩ hS0.out.xl.1
   rw [show ((cnt + 1 : Nat) : Int) = (cnt : Int) + 1 by omega] at s1
   have hq1:=hd1.setN hS0.out HM.out.2.2.2.1 hv (cnt + 1)
   rw [show ((cnt + 1 : Nat) : Int) = (cnt : Int) + 1 by omega] at hq1
   have HD:=Lib.hid (And.intro hd1 hq1)
   clear hZ hd1 hq1
   refine wp_region_mix [0,1,2,3,4,5,6] [7,8,9] (fun w' => w'.cell? ⟨L.bc,0,none⟩ = some (.int .i64 ((cnt : Int) + 1))∧w'.cell? ⟨L.bn,0,none⟩ = some (.slice L.sn L.n L.cn)∧w'.cell? ⟨L.bl,0,none⟩ = some (.slice L.sl L.n L.cl)) (by kernel_rfl) (by kernel_rfl) (by kernel_rfl) ⟨s1,s2,s3⟩ ?_
   clear s1 s2 s3
   repeat (
    refine wpHeads_cons (v:=?_) rfl (Or.inl ⟨by rfl, ?_⟩) ?_
    rotate_left
    ·(intro W hW; obtain ⟨q1,q2,q3⟩:=hW; go_simp; try with_reducible rfl)
    simp only [Act.put,List.setIfInBounds_toArray,List.getElem_toArray,List.getElem_cons_zero,List.getElem_cons_succ,List.set_cons_succ,List.set_cons_zero])
   refine wpHeads_nil ?_
   generalize Z.drew = Z1 at *
   refine wpTails_cons rfl ?_
   go_wp2_with fail
   refine K_gen (fun Y => SeW L (cnt + 1) (num.set v (cnt + 1)) low hd stk Y) HD.out.2 ?_
   intro Z2 hZ2
   clear HD HZ n1 n2 n3 l1 l3
   have s1:=hZ2.c
   have s2:=hZ2.stays ⟨hS0.out.xn.2.1,hS0.out.xn.2.2⟩ hS0.out.xn.1
   have s3:=hZ2.stays ⟨hS0.out.xl.2.1,hS0.out.xl.2.2⟩ hS0.out.xl.1
   rw [show ((cnt + 1 : Nat) : Int) = (cnt : Int) + 1 by omega] at s1
   obtain ⟨l1, -,l3⟩:=hZ2.rdL HM.out.2.2.2.2 hv
   have hq2:=hZ2.setL hS0.out HM.out.2.2.2.2 hv (cnt + 1)
   rw [show ((cnt + 1 : Nat) : Int) = (cnt : Int) + 1 by omega] at hq2
   have HQ2:=Lib.hid hq2
   have HSS:=Lib.hid (And.intro s1 (And.intro s2 s3))
   clear hZ2 hq2 s1 s2 s3
   refine tail_mk HSS.out ?_
   refine wpTails_cons rfl ?_
   go_wp2_with fail
   refine tail_mk HSS.out ?_
   refine wpTails_one rfl ?_
   go_wp2_with fail
   refine K_gen (fun Y => SeW L (cnt + 1) (num.set v (cnt + 1)) (low.set v (cnt + 1)) hd stk Y) HQ2.out ?_
   intro Z3 hZ3
   clear HQ2 HSS l1 l2 l3
   have HZ3:=Lib.hid hZ3
   obtain ⟨sv,t1,t2⟩:=hZ3.stk.ex
   obtain ⟨ss,sc,rfl⟩:=t2.shape (n:=stk.length) (by rw [castL_len])
   have hsl:=HM.out.1.base.slen
   have hll : (castL stk).length < 17592186044416:=by rw [castL_len]; omega
   have hsB:=hZ3.top
   have HT2:=Lib.hid t2
   clear hZ3 t2
   refine thenQ_mk ?_
   have hss : ((castL stk) ++ [(v : Int)]) = castL (stk ++ [v]):=by unfold castL; rw [List.map_append]; rfl
   have HSS2:=Lib.hid hss
   clear hss
   go_upto_region 3 with (at_builtin; refine wp_append1at (f:=Value.int .i64) sIntG rfl _ rfl _ _ rfl L.B _ (castL stk) rfl (HT2.out.alloc _) (v : Int) ⟨Z3.heap.size,0,none⟩ rfl (cell_alloc1 _ _ _) rfl hll (by omega) (le_alloc _ hsB) ?_; intro v' w3 hown hgr hat; obtain ⟨s9,c9,rfl⟩:=hown.shape (n:=stk.length + 1) (by rw [List.length_append,castL_len]; rfl); rw [HSS2.out] at hown; have HO:=Lib.hid (HZ3.out.grown hS0.out t1 hown hgr); obtain ⟨o1,o2, -⟩:=HO.out; clear hown hgr hat t1)
   refine gen_code (fun Y => SeW L (cnt + 1) (num.set v (cnt + 1)) (low.set v (cnt + 1)) hd (stk ++ [v]) Y) HO.out.2.2 ?_
   intro Z4 hZ4
   have HZ4:=Lib.hid hZ4
   clear HO o1 o2 hll hsB HT2 HZ3 HSS2
   have u1:=hZ4.stays ⟨hS0.out.xu.2.1,hS0.out.xu.2.2⟩ hS0.out.xu.1
   have hsu:=hZ4.succ hS0.out
   obtain ⟨a4,c4,he,hm4,hidx4,hcell4, -⟩:=hsu.out.lst.out1 sRowsG
   have hvl : L.us.length = L.n:=by rw [hsu.len]; exact hS0.out.gl
   rw [hvl] at he hm4 hidx4 hcell4
   simp only [Value.slice.injEq] at he
   obtain ⟨e1, -,e2⟩:=he
   have ccl:=hcell4 v hv
   have i4:=hidx4 .i64 (v : Int) (by omega) (by omega)
   rw [Int.toNat_natCast] at i4
   rw [← e1] at ccl i4
   rw [← e2] at i4
   have hrow:=hsu.inn v (by rw [hS0.out.gl]; exact hv)
   rw [HR.out.eq v hv] at hrow
   obtain ⟨ra,rc,hrv⟩:=hrow.shape (n:=(rw v).length) (by rw [castL_len])
   rw [hrv] at ccl
   have HRV:=Lib.hid hrv
   obtain ⟨row,hrw⟩ : ∃ row,row = rw v:=⟨_,rfl⟩
   have HRW:=Lib.hid hrw
   rw [← hrw] at HM HRV ccl
   obtain ⟨-, -, -,hrm, -⟩:=hrow.lst.out1 sIntG
   rw [castL_len, ← hrw] at hrm
   clear hZ4 hsu hm4 hidx4 hcell4 hvl hrow hrv e1 e2 hrw
   go_wp2_with fail
   clear u1 ccl i4
   go_loopw [35] (fun x wr => ∃ (j cnt1 : Nat) (num1 low1 : List Nat) (hd1 : List Int) (stk1 : List Nat),j ≤ row.length∧x = .int .i64 (j : Int)∧Hid (SeW L cnt1 num1 low1 hd1 stk1 wr∧TL (Ev L rw) L.n gray v row cnt num low hd stk j cnt1 num1 low1 hd1 stk1)) (fun x _ => row.length - (intOf x).toNat)
   case atStart => exact ⟨0,cnt + 1,_,_,_,_,by omega,rfl,HZ4.out,HM.out.1⟩
   case round =>
    obtain ⟨j,cnt1,num1,low1,hd1,stk1,hj,rfl,hh⟩:=hrel
    have HI:=Lib.hid hh.out
    clear hh
    have u2:=HI.out.1.stays ⟨hS0.out.xn.2.1,hS0.out.xn.2.2⟩ hS0.out.xn.1
    have u3:=HI.out.1.stays ⟨hS0.out.xl.2.1,hS0.out.xl.2.2⟩ hS0.out.xl.1
    have u7:=HI.out.1.stays ⟨hS0.out.xh.2.1,hS0.out.xh.2.2⟩ hS0.out.xh.1
    have u6:=HI.out.1.stays ⟨hS0.out.xf.2.1,hS0.out.xf.2.2⟩ hS0.out.xf.1
    rw [HR.out.fv] at u6
    unfold visV at u6
    have hlN:=HI.out.2.inv.lenN
    have hlH:=HI.out.2.inv.lenH
    have hlL:=HI.out.2.lenL
    by_cases hjt : j < row.length
    ·have hjl : (j : Int) < (row.length : Int):=by omega
     obtain ⟨w,hw⟩ : ∃ w,w = nth row j:=⟨_,rfl⟩
     have hwm : w ∈ rw v:=by rw [hw, ← HRW.out]; exact nth_mem _ _ hjt
     have hwn:=HR.out.lt v hv w hwm
     have hrow:=(HI.out.1.succ hS0.out).inn v (by rw [hS0.out.gl]; exact hv)
     rw [HR.out.eq v hv, ← HRW.out,HRV.out] at hrow
     obtain ⟨r1,i1, -⟩:=own_int hrow (castL_len _) hjt
     rw [castL_nth hjt, ← hw] at r1
     obtain ⟨n1,n2,n3⟩:=HI.out.1.rdN hlN hwn
     have HW:=Lib.hid (And.intro hw (show Ev L rw v w from ⟨hv,hwm⟩))
     clear hw hwm hrow
     by_cases h0 : nth num1 w = 0
     ·rw [h0] at n1
      have hcall:=HM.out.2.1 w (gray ++ [v]) cnt1 num1 low1 hd1 stk1 wr HI.out.1 HI.out.2.inv hlL hwn h0 (HI.out.2.reach HW.out.2) (by have:=HI.out.2.cle; have:=HM.out.2.2.1; omega)
      have HCALL:=Lib.hid hcall
      clear hcall h0
      go_wp2_with fail
      refine HCALL.out.mono ?_
      rintro e Y ⟨rfl,cnt2,num2,low2,hd2,stk2,q1,q2⟩
      have HQ:=Lib.hid (And.intro q1 (And.intro q2 (HI.out.2.child HW.out.1 HW.out.2 q2)))
      clear q1 q2 HCALL n1 n2 n3 r1 i1 u2 u3 u6 u7
      go_upto_region 8 with fail
      have hlL2:=HQ.out.2.1.lenL
      have hy:=HQ.out.1.below hS0.out ((Below.refl _ _).drew)
      have v3:=hy.stays ⟨hS0.out.xl.2.1,hS0.out.xl.2.2⟩ hS0.out.xl.1
      obtain ⟨a1,a2,a3⟩:=hy.rdL hlL2 hv
      obtain ⟨b1,b2, -⟩:=hy.rdL hlL2 hwn
      have hst:=hy.setL hS0.out hlL2 hv (min (nth low2 v) (nth low2 w))
      have hch:=HQ.out.2.2
      obtain ⟨la,hla⟩ : ∃ la,la = nth low2 v:=⟨_,rfl⟩
      obtain ⟨lb,hlb⟩ : ∃ lb,lb = nth low2 w:=⟨_,rfl⟩
      rw [← hla, ← hlb] at hst hch
      rw [← hla] at a1
      rw [← hlb] at b1
      rw [show ((min la lb : Nat) : Int) = min (la : Int) (lb : Int) by omega] at hst
      have HST:=Lib.hid (And.intro hst hch)
      clear hy hst hch hla hlb hlL2
      refine wp_region_mix [0,1,2,3,4,5,6,7,8,9,10,11] [12] (fun w' => w'.cell? ⟨L.bl,0,none⟩ = some (.slice L.sl L.n L.cl)∧w'.cell? ⟨blk L.sl,ofs L.sl + v,none⟩ = some (.int .i64 (la : Int))∧w'.cell? ⟨blk L.sl,ofs L.sl + w,none⟩ = some (.int .i64 (lb : Int))) (by kernel_rfl) (by kernel_rfl) (by kernel_rfl) ⟨v3,a1,b1⟩ ?_
      repeat (
       refine wpHeads_cons (v:=?_) rfl (Or.inl ⟨by rfl, ?_⟩) ?_
       rotate_left
       ·(intro W hW; obtain ⟨q1,q2,q3⟩:=hW; go_simp; try with_reducible rfl)
       simp only [Act.put,List.setIfInBounds_toArray,List.getElem_toArray,List.getElem_cons_zero,List.getElem_cons_succ,List.set_cons_succ,List.set_cons_zero])
      refine wpHeads_nil ?_
      generalize Y.drew = Y1 at *
      refine wpTails_one rfl ?_
      go_wp2_with fail
      refine thenQ_mk ?_
      go_wp2_with fail
      go_roundw
      case rel => exact ⟨j + 1,cnt2,num2,low2.set v (min la lb),hd2,stk2,by omega,by go_num,HST.out⟩
      case measure => simp [intOf]; omega
     ·have w1 : (((nth num1 w : Nat) : Int) == 0) = false:=by simp; exact h0
      obtain ⟨h1,h2, -⟩:=own_int HI.out.1.hd hlH hwn
      obtain ⟨z,hz⟩ : ∃ z,z = nth hd1 w:=⟨_,rfl⟩
      rw [← hz] at h1
      by_cases hz0 : z < 0
      ·have w2 : decide (z < 0) = true:=decide_eq_true hz0
       have HBK:=Lib.hid (HI.out.2.back HW.out.1 HW.out.2 hwn h0 (by rw [← hz]; exact hz0))
       clear hz hz0 h0
       go_upto_region 10 with fail
       have hy:=HI.out.1.below hS0.out ((Below.refl _ _).drew)
       have v2:=hy.stays ⟨hS0.out.xn.2.1,hS0.out.xn.2.2⟩ hS0.out.xn.1
       have v3:=hy.stays ⟨hS0.out.xl.2.1,hS0.out.xl.2.2⟩ hS0.out.xl.1
       clear u2 u3 u6 u7 n1 n2 n3 r1 i1 h1 h2
       obtain ⟨a1,a2,a3⟩:=hy.rdL hlL hv
       obtain ⟨b1,b2, -⟩:=hy.rdN hlN hwn
       have hst:=hy.setL hS0.out hlL hv (min (nth low1 v) (nth num1 w))
       have hch:=HBK.out
       obtain ⟨la,hla⟩ : ∃ la,la = nth low1 v:=⟨_,rfl⟩
       obtain ⟨lb,hlb⟩ : ∃ lb,lb = nth num1 w:=⟨_,rfl⟩
       rw [← hla, ← hlb] at hst hch
       rw [← hla] at a1
       rw [← hlb] at b1
       rw [show ((min la lb : Nat) : Int) = min (la : Int) (lb : Int) by omega] at hst
       have HST:=Lib.hid (And.intro hst hch)
       have HLL:=Lib.hid (And.intro hla hlb)
       clear hy hst hch hla hlb HBK
       refine wp_region_mix [0,1,2,3,4,5,6,7,8,9,10,11] [12] (fun w' => w'.cell? ⟨L.bl,0,none⟩ = some (.slice L.sl L.n L.cl)∧w'.cell? ⟨L.bn,0,none⟩ = some (.slice L.sn L.n L.cn)∧w'.cell? ⟨blk L.sl,ofs L.sl + v,none⟩ = some (.int .i64 (la : Int))∧w'.cell? ⟨blk L.sn,ofs L.sn + w,none⟩ = some (.int .i64 (lb : Int))) (by kernel_rfl) (by kernel_rfl) (by kernel_rfl) ⟨v3,v2,a1,b1⟩ ?_
       repeat (
        refine wpHeads_cons (v:=?_) rfl (Or.inl ⟨by rfl, ?_⟩) ?_
        rotate_left
        ·(intro W hW; obtain ⟨q1,q2,q3,q4⟩:=hW; go_simp; try with_reducible rfl)
        simp only [Act.put,List.setIfInBounds_toArray,List.getElem_toArray,List.getElem_cons_zero,List.getElem_cons_succ,List.set_cons_succ,List.set_cons_zero])
       refine wpHeads_nil ?_
       generalize wr.drew = Y1 at *
       refine wpTails_one rfl ?_
       go_wp2_with fail
       refine thenQ_mk ?_
       go_wp2_with fail
       go_roundw
       case rel => exact ⟨j + 1,cnt1,num1,low1.set v (min la lb),hd1,stk1,by omega,by go_num,HST.out⟩
       case measure => simp [intOf]; omega
      ·have w2 : decide (z < 0) = false:=decide_eq_false hz0
       have HD:=Lib.hid (HI.out.2.done HW.out.1 h0 (by rw [← hz]; omega))
       clear hz hz0 h0
       go_wp2_with fail
       go_roundw
       case rel => exact ⟨j + 1,cnt1,num1,low1,hd1,stk1,by omega,by go_num,HI.out.1,HD.out⟩
       case measure => simp [intOf]; omega
    ·obtain rfl : j = row.length:=by omega
     obtain ⟨n1,n2, -⟩:=HI.out.1.rdN hlN hv
     obtain ⟨l1,l2, -⟩:=HI.out.1.rdL hlL hv
     have hrowE : ∀ w,Ev L rw v w ↔ w ∈ row:=fun w => by rw [HRW.out]; exact ⟨fun h => h.2,fun h => ⟨hv,h⟩⟩
     by_cases hlt : nth low1 v < nth num1 v
     ·have w1 : decide (((nth low1 v : Nat) : Int) < ((nth num1 v : Nat) : Int)) = true:=decide_eq_true (by omega)
      have w1' : decide (nth low1 v < nth num1 v) = true:=decide_eq_true hlt
      have HX:=Lib.hid (HI.out.2.exit1 rfl hrowE hlt)
      clear hlt hrowE
      go_upto_region 12 with fail
      go_quiet (fail)
      refine K_gen (fun Y => SeW L cnt1 num1 low1 hd1 stk1 Y) (HI.out.1.below hS0.out (below_drewN (Below.refl _ _) _)) ?_
      intro Y hY
      have HY:=Lib.hid hY
      clear hY n1 n2 l1 l2 u2 u3 u6 u7
      go_wp2_with fail
      refine bodyPost_ret (v:=.tuple #[]) (results_none rfl _ _ _) rfl ?_
      exact ⟨rfl,cnt1,num1,low1,hd1,stk1,HY.out,HX.out⟩
     ·have w1 : decide (((nth low1 v : Nat) : Int) < ((nth num1 v : Nat) : Int)) = false:=decide_eq_false (by omega)
      have w1' : decide (nth low1 v < nth num1 v) = false:=decide_eq_false hlt
      have hnd:=HI.out.2.inv.nd
      have hsl1:=HI.out.2.inv.slen
      obtain ⟨ext,hext, -⟩:=HI.out.2.ext
      have HE:=Lib.hid (And.intro hlt (And.intro hrowE (And.intro hnd hext)))
      clear hlt hrowE hnd hext
      go_upto_region 12 with fail
      go_quiet (fail)
      refine K_gen (fun Y => SeW L cnt1 num1 low1 hd1 stk1 Y) (HI.out.1.below hS0.out (below_drewN (Below.refl _ _) _)) ?_
      intro Y hY
      have HY:=Lib.hid hY
      clear n1 n2 l1 l2 u2 u3 u6 u7
      obtain ⟨sv,t1,t2⟩:=hY.stk.ex
      obtain ⟨s2,c2,rfl⟩:=t2.shape (n:=stk1.length) (by rw [castL_len])
      have HT2:=Lib.hid t2
      clear hY t2
      have hel : stk1.length = stk.length + (ext.length + 1):=by rw [HE.out.2.2.2,List.length_append]; rfl
      have hdrop : (castL stk1).drop stk.length = castL (v :: ext):=by
       rw [HE.out.2.2.2]; unfold castL; rw [List.map_append,List.drop_append_of_le_length (by rw [List.length_map]; exact Nat.le_refl _),List.drop_eq_nil_of_le (by rw [List.length_map]; exact Nat.le_refl _)]; rfl
      obtain ⟨ca,cc,hcut,hcb,hci⟩:=HT2.out.cutRest sIntG (k:=stk.length) (by rw [castL_len]; omega)
      rw [castL_len,show stk1.length - stk.length = ext.length + 1 by omega] at hcut hci
      rw [hdrop] at hci
      obtain ⟨el,hee⟩ : ∃ el,el = ext.length + 1:=⟨_,rfl⟩
      rw [← hee] at hcut hci
      have hel8 : el ≤ 8192:=by omega
      have HEE:=Lib.hid hee
      clear hee
      obtain ⟨ta,tc,hcut2,hown2⟩:=HT2.out.cutBoth sIntG (k:=stk.length) (by rw [castL_len]; omega)
      have htake : (castL stk1).take stk.length = castL stk:=by
       rw [HE.out.2.2.2]; unfold castL; rw [List.map_append,List.take_append_of_le_length (by rw [List.length_map]; exact Nat.le_refl _),List.take_of_length_le (by rw [List.length_map]; exact Nat.le_refl _)]
      have HCU:=Lib.hid (And.intro hcb (And.intro hci (And.intro hown2 htake)))
      have hcut9:=hcut .i64
      have hcut8:=hcut2 .i64
      have HEL:=Lib.hid hel
      clear hcut hcut2 hcb hci hown2 htake hdrop hel
      go_wp2_with fail
      refine (sIndex_any _ (castL stk1) (v : Int) Y HT2.out.lst).mono ?_
      rintro e Y2 ⟨⟨i,rfl,hi⟩,rfl⟩
      have hip : i = (stk.length : Int):=by
       rcases hi with ⟨-,hno⟩ | ⟨q,rfl,hq,hqv⟩
       ·exact absurd (List.mem_map.2 ⟨v,by rw [HE.out.2.2.2]; simp,rfl⟩) hno
       ·rw [castL_len] at hq
        rw [castL_nth hq] at hqv
        have h1 : nth stk1 q = v:=by omega
        have h2 : nth stk1 stk.length = v:=by rw [HE.out.2.2.2,nth_append,if_neg (Nat.lt_irrefl _),Nat.sub_self]; rfl
        have h3:=congrArg stk1.idxOf (h1.trans h2.symm)
        rw [nth_eq _ _ hq,nth_eq _ _ (show stk.length < stk1.length by have:=HEL.out; omega),HE.out.2.2.1.idxOf_getElem,HE.out.2.2.1.idxOf_getElem] at h3
        omega
      subst hip
      clear hi
      go_wp2_with fail
      refine (sMin_any _ (castL (v :: ext)) Y2 (HCU.out.2.1 Y2 HT2.out) (by rw [castL_len]; exact Nat.succ_pos _)).mono ?_
      rintro e Y3 ⟨⟨mi,rfl,hm1,hm2⟩,rfl⟩
      obtain ⟨m,hm,rfl⟩:=List.mem_map.1 hm1
      have hmin : ∀ x ∈ v :: ext,m ≤ x:=fun x hx => by
       have:=hm2 _ (List.mem_map.2 ⟨x,hx,rfl⟩); omega
      have HMM:=Lib.hid (And.intro hm hmin)
      clear hm1 hm2 hm hmin
      go_wp2_with fail
      clear hcut9
      go_loopw [96] (fun x wr => ∃ (t : Nat) (hd2 : List Int),t ≤ el∧x = .int .i64 (t : Int)∧Hid (SeW L cnt1 num1 low1 hd2 stk1 wr∧wr.cell? ⟨L.bs,0,none⟩ = some (.slice s2 stk1.length c2)∧hd2.length = L.n∧∀ x,x < L.n→nth hd2 x = if x ∈ (v :: ext).take t then (m : Int) else nth hd1 x)) (fun x _ => el - (intOf x).toNat)
      case atStart => exact ⟨0,hd1,by omega,rfl,HY.out,t1,hlH,fun x _ => by simp⟩
      case round =>
       obtain ⟨t,hd2,ht,rfl,hh⟩:=hrel
       have HK:=Lib.hid hh.out
       clear hh t1
       have g1:=HK.out.2.1
       obtain ⟨v0,g2,g3⟩:=HK.out.1.stk.ex
       obtain rfl : v0 = .slice s2 stk1.length c2:=Option.some.inj (g2.symm.trans g1)
       have HG3:=Lib.hid g3
       clear g2 g3
       have u7:=HK.out.1.stays ⟨hS0.out.xh.2.1,hS0.out.xh.2.2⟩ hS0.out.xh.1
       by_cases htl : t < el
       ·have htl' : (t : Int) < (el : Int):=by omega
        obtain ⟨w,hw⟩ : ∃ w,w = nth (v :: ext) t:=⟨_,rfl⟩
        have htc : t < (v :: ext).length:=by rw [List.length_cons]; have:=HEE.out; omega
        have hwm : w ∈ v :: ext:=by rw [hw]; exact nth_mem _ _ htc
        have hwn : w < L.n:=HI.out.2.inv.lt (by rw [HE.out.2.2.2]; exact List.mem_append_right _ hwm)
        obtain ⟨ca',cc',he,hcm,hcx,hcl, -⟩:=(HCU.out.2.1 wr HG3.out).out1 sIntG
        have hlc : (castL (v :: ext)).length = el:=by rw [castL_len,List.length_cons]; exact HEE.out.symm
        rw [hlc] at he hcm hcx hcl
        simp only [Value.slice.injEq] at he
        obtain ⟨rfl, -,rfl⟩:=he
        have r1:=hcl t htl
        rw [castL_nth htc, ← hw] at r1
        have i1:=hcx .i64 (t : Int) (by omega) (by omega)
        rw [Int.toNat_natCast] at i1
        obtain ⟨h1,h2,h3⟩:=own_int HK.out.1.hd HK.out.2.2.1 hwn
        have hst:=HK.out.1.setH hS0.out HK.out.2.2.1 hwn (m : Int)
        have hbs : (wr.setCell ⟨blk L.sh,ofs L.sh + w,none⟩ (.int .i64 (m : Int))).cell? ⟨L.bs,0,none⟩ = some (.slice s2 stk1.length c2) :=
         kCell ⟨hS0.out.ks.1,hS0.out.ks.2.1⟩ g1 (grownBy_setCell _ _ _) (fun q e _ e2 => by
          have e3:=Option.some.inj e
          have e4:=(hS0.out.kh _ (own_blkG HK.out.1.hd HK.out.2.2.1 (by omega))).1
          dsimp only at e3
          rw [e3] at e4
          omega)
        have hnew : ∀ x,x < L.n→nth (hd2.set w (m : Int)) x = if x ∈ (v :: ext).take (t + 1) then (m : Int) else nth hd1 x:=fun x hx => by
         rw [nth_set,HK.out.2.2.1,take_snoc _ _ htc, ← hw,HK.out.2.2.2 x hx]
         by_cases e : w = x
         ·subst e; rw [if_pos ⟨rfl,hx⟩,if_pos (by simp)]
         ·rw [if_neg fun h => e h.1]
          have : x ∈ (v :: ext).take t ++ [w] ↔ x ∈ (v :: ext).take t:=by
           rw [List.mem_append,List.mem_singleton]
           exact ⟨fun h => h.resolve_right fun e2 => e e2.symm,.inl⟩
          by_cases h9 : x ∈ (v :: ext).take t
          ·rw [if_pos h9,if_pos (this.2 h9)]
          ·rw [if_neg h9,if_neg fun h => h9 (this.1 h)]
        have HST:=Lib.hid (And.intro hst (And.intro hbs (And.intro (show (hd2.set w (m : Int)).length = L.n by rw [List.length_set]; exact HK.out.2.2.1) hnew)))
        clear hw hwm hlc hcm hcx hcl hst hbs hnew g1
        go_wp2_with fail
        go_roundw
        case rel => exact ⟨t + 1,hd2.set w (m : Int),by omega,by go_num,HST.out⟩
        case measure => simp [intOf]; omega
       ·obtain rfl : t = el:=by omega
        have f1:=HK.out.1.stk.frz
        have hown:=HCU.out.2.2.1 wr HG3.out
        rw [HCU.out.2.2.2] at hown
        have hbox:=HK.out.1.box hS0.out hown
        have hte : (v :: ext).take t = v :: ext:=List.take_of_length_le (by rw [List.length_cons]; have:=HEE.out; omega)
        have hfin:=HI.out.2.exit2 (fun a b hab => HR.out.lt a hab.1 b hab.2) rfl HE.out.2.1 HE.out.1 HE.out.2.2.2 HMM.out.1 HMM.out.2 HK.out.2.2.1 (fun x hx => by rw [HK.out.2.2.2 x hx,hte])
        have HF:=Lib.hid (And.intro hbox hfin)
        clear hown hbox hte hfin htl ht
        go_wp2_with fail
        refine bodyPost_ret (v:=.tuple #[]) (results_none rfl _ _ _) rfl ?_
        exact ⟨rfl,cnt1,num1,low1,hd2,stk,HF.out⟩
end Go.Proofs.YtgblfjccccdidaaGreat
end
section
namespace Go.Proofs.YtgblfjccccdidaaGreat
open Go.RowKit Go.Dfl Go.Gra
set_option maxHeartbeats 3200000 in
set_option maxRecDepth 100000 in
theorem successors_any (g : G) (cv : Value) (W : World) (h : Pairs W cv g.es) (hvg : VG g) : Calls Tryz.prog 128 #[GV g cv] W (ListsR g W):=by
 obtain ⟨ca,cc,rfl, -,hci,hcc⟩:=pairs_rd h
 have hal:=(Below.refl W.heap.size W).alloc (Nat.le_refl _) (.cells #[.int .i64 g.n,.slice ca g.es.length cc] 71)
 have H1:=Lib.hid (And.intro hcc (And.intro hal (BoxG.new W g.n (.slice ca g.es.length cc) 71)))
 obtain ⟨n,hn⟩ : ∃ n : Nat,g.n = n:=⟨g.n.toNat,by have:=hvg.n0; omega⟩
 have hn8 : n ≤ 8192:=by have:=hvg.n1; omega
 have hl:=hvg.len
 have HV:=Lib.hid (And.intro hvg hn)
 unfold GV
 rw [hn] at H1 ⊢
 clear h hal hcc hvg hn
 obtain ⟨c0,c1⟩:=H1.out.2.2
 have n1 : W.heap.size < (W.alloc (.cells #[.int .i64 (n : Int),.slice ca g.es.length cc] 71)).heap.size:=H1.out.2.2.lt
 go_enter Tryz.func128,Tryz.ntmps128
 go_wp2_with (at_make; refine wp_make (f:=fun x : Value => x) (.slice none 0 0) sRowsG rfl _ rfl _ _ rfl .i64 .i64 _ _ n rfl rfl rfl rfl (by omega) (by unfold maxLen; omega) ?_)
 intro s cap W2 hrow hb2
 rw [← World.size_alloc W (.cells #[.int .i64 (n : Int),.slice ca g.es.length cc] 71)] at hrow hb2
 generalize W.alloc (.cells #[.int .i64 (n : Int),.slice ca g.es.length cc] 71) = W1 at *
 have h0 : LsW W1 n cap s g.es 0 (List.replicate n (.slice none 0 0)) W2:=⟨by rw [listsTo_zero]; exact OwnN.made hrow (Go.Dfl.Own.nil _ _ _ _),hb2⟩
 have HL0:=Lib.hid h0
 obtain ⟨d0,d1⟩:=H1.out.2.2.below hb2
 clear h0 hrow hb2
 go_wp2_with fail
 clear d0 d1
 generalize hbs : W.heap.size = bs at *
 have HBS:=Lib.hid hbs
 clear hbs
 go_loopw [12] (fun x wr => ∃ (k : Nat) (vs : List Value),k ≤ g.es.length∧x = .int .i64 k∧Hid (LsW W1 n cap s g.es k vs wr)) (fun x _ => g.es.length - (intOf x).toNat)
 case atStart => exact ⟨0,_,by omega,rfl,HL0.out⟩
 case round =>
  obtain ⟨k,vs,hk,rfl,hh⟩:=hrel
  obtain ⟨d0,d1⟩:=H1.out.2.2.below hh.out.bel
  by_cases hlt : k < g.es.length
  ·obtain ⟨p0,p1⟩:=(H1.out.1 k hlt).2 wr (H1.out.2.1.trans (hh.out.bel.mono (Nat.le_of_lt n1)))
   obtain ⟨e,he⟩ : ∃ e,e = nth g.es k:=⟨_,rfl⟩
   rw [← he] at p0 p1
   have hin:=HV.out.1.nth hlt
   rw [← he] at hin
   have HE:=Lib.hid he
   have hkl : (k : Int) < (g.es.length : Int):=by omega
   obtain ⟨x,y⟩:=e
   dsimp only at p0 p1 hin
   obtain ⟨a,rfl⟩ : ∃ a : Nat,x = a:=⟨x.toNat,by omega⟩
   have han : a < n:=by have:=HV.out.2; omega
   go_upto_region 5 with fail
   have hnew:=cells_new (W:=wr) (cs:=[.int .i64 (a : Int),.int .i64 y]) (t:=60) rfl
   have hb0:=(Below.refl wr.heap.size wr).alloc (Nat.le_refl _) (.cells #[.int .i64 (a : Int),.int .i64 y] 60)
   have hrows:=hh.out.rows.below kIIg hb0
   have hbel:=hh.out.bel.trans (hb0.mono hh.out.bel.size)
   have hz : (wr.alloc (.cells #[.int .i64 (a : Int),.int .i64 y] 60)).heap.size = wr.heap.size + 1:=World.size_alloc _ _
   refine gen_code (fun V => (V.cell? ⟨wr.heap.size,0,none⟩ = some (.int .i64 (a : Int))∧V.cell? ⟨wr.heap.size,1,none⟩ = some (.int .i64 y))∧OwnN IIg V W1.heap.size 32 (.slice s n cap) vs (listsTo g.es n k)∧Below W1.heap.size W1 V∧V.heap.size = wr.heap.size + 1) ⟨⟨hnew 0 _ rfl,hnew 1 _ rfl⟩,hrows,hbel,hz⟩ ?_
   rintro V ⟨⟨q0,q1⟩,v1,v2,v3⟩
   have hft : ∀ q,Foot (.slice s n cap) vs q→q < wr.heap.size:=fun q hq => (hh.out.rows.foot kIIg q hq).2
   clear hnew hb0 hrows hbel hz d0 d1 p0 p1 hh
   generalize wr.heap.size = be at *
   have hll : (listsTo g.es n k).length = n:=listsTo_len _ _ _
   have hvl : vs.length = n:=by rw [v1.len,hll]
   have hbd : Below V.heap.size V V.drew:=(Below.refl _ _).drew
   have hq0:=(hbd.cell (p:=⟨be,0,none⟩) (by show be < _; omega)).trans q0
   have hq1:=(hbd.cell (p:=⟨be,1,none⟩) (by show be < _; omega)).trans q1
   have hv1:=v1.below kIIg hbd
   have hv2:=v2.trans (hbd.mono v2.size)
   have hv3 : V.drew.heap.size = be + 1:=v3
   clear q0 q1 v1 v2 v3 hbd
   obtain ⟨a4,c4,he,hm4,hidx4,hcell4, -⟩:=hv1.out.lst.out1 sRowsG
   rw [hvl] at he hm4 hidx4 hcell4
   simp only [Value.slice.injEq] at he
   obtain ⟨rfl, -,rfl⟩:=he
   have ccl:=hcell4 a han
   have i4:=hidx4 .i64 (a : Int) (by omega) (by omega)
   rw [Int.toNat_natCast] at i4
   have hfz:=hv1.out.frozen (by omega) (ofs s + a)
   have hob : (Value.slice s n cap).ownBlock = some (blk s):=by
    obtain ⟨a2,c2,he, -, -,h3⟩:=hv1.out.lst
    rw [hvl] at he h3
    simp only [Value.slice.injEq] at he
    obtain ⟨rfl, -,rfl⟩:=he
    rw [(h3 a han).1]; rfl
   have hbs9 : blk s < be:=hft _ (.inl hob)
   have hne1 : blk s ≠ be:=by omega
   have hna : ∀ q,(nth vs a).ownBlock = some q→q < be∧q ≠ blk s:=fun q hq => ⟨hft q (.inr ⟨a,by omega,hq⟩),fun e => hv1.apart a (by omega) q hq (by rw [e]; exact hob)⟩
   have hlen : (nth (listsTo g.es n k) a).length ≤ k:=by rw [listsTo_nth han]; exact succK_len _ _ _
   have hsu:=listsTo_succ (es:=g.es) (n:=n) hlt (a:=a) (by rw [← HE.out]) han
   rw [← HE.out] at hsu
   dsimp only at hsu
   have HS:=Lib.hid (And.intro hq0 (And.intro hq1 ccl))
   have HH:=Lib.hid (And.intro hv1 (And.intro hv2 (And.intro hna (And.intro hlen (And.intro hsu (And.intro hvl hll))))))
   clear hidx4 hcell4 hm4 hob hbs9 hna hlen hsu hq0 hq1 ccl hv1 hv2 hft hvl hll
   refine wp_region_mix [0,1,2,3,4,5,6,7,8,9] [10,11,12,13] (fun w' => w'.cell? ⟨be,0,none⟩ = some (.int .i64 (a : Int))∧w'.cell? ⟨be,1,none⟩ = some (.int .i64 y)∧w'.cell? ⟨blk s,ofs s + a,none⟩ = some (nth vs a)) (by kernel_rfl) (by kernel_rfl) (by kernel_rfl) HS.out ?_
   repeat (
    refine wpHeads_cons (v:=?_) rfl (Or.inl ⟨by rfl, ?_⟩) ?_
    rotate_left
    ·(intro W hW; obtain ⟨q1,q2,q3⟩:=hW; go_simp; try with_reducible rfl)
    simp only [Act.put,List.setIfInBounds_toArray,List.getElem_toArray,List.getElem_cons_zero,List.getElem_cons_succ,List.set_cons_succ,List.set_cons_zero])
   refine wpHeads_nil ?_
   generalize V.drew = Z at *
   refine wpTails_cons rfl ?_
   go_wp2_with fail
   have gA:=grownBy_alloc Z (.cells #[.int .i64 y] 3)
   have HS2:=Lib.hid (HS.out.imp (fun h => gA.cell h (by simp)) fun h => h.imp (fun h => gA.cell h (by simp)) fun h => gA.cell h (by simp))
   have HA:=Lib.hid (And.intro (HH.out.1.alloc kIIg (.cells #[.int .i64 y] 3)) (cell_alloc1 Z (.int .i64 y) 3))
   clear gA
   refine tail_mk HS2.out ?_
   refine wpTails_cons rfl ?_
   refine wp_append1at (f:=Value.int .i64) sIntG rfl _ rfl _ _ rfl W1.heap.size (nth vs a) (nth (listsTo g.es n k) a) rfl (HA.out.1.inn a (by rw [HH.out.2.2.2.2.2.2]; exact han)) y ⟨be + 1,0,none⟩ rfl (by rw [← hv3]; exact HA.out.2) rfl (by have:=HH.out.2.2.2.1; omega) (by omega) (by rw [World.size_alloc]; have:=HH.out.2.1.size; omega) ?_
   intro v31 w31 o31 g31 l31
   obtain ⟨s31,c31,rfl⟩:=o31.shape (n:=(nth (listsTo g.es n k) a).length + 1) (by simp)
   have hS3:=HS2.out.imp (fun h => g31.cell h (fun e => by have:=(HH.out.2.2.1 _ e.symm).1; dsimp only at this; omega)) fun h => h.imp (fun h => g31.cell h (fun e => by have:=(HH.out.2.2.1 _ e.symm).1; dsimp only at this; omega)) fun h => g31.cell h (fun e => (HH.out.2.2.1 _ e.symm).2 rfl)
   have HS3:=Lib.hid hS3
   clear hS3
   refine tail_mk HS3.out ?_
   refine wpTails_cons rfl ?_
   go_wp2_with fail
   refine tail_mk HS3.out ?_
   refine wpTails_one rfl ?_
   have hai : a < (listsTo g.es n k).length:=by rw [HH.out.2.2.2.2.2.2]; exact han
   have hf31:=(HA.out.1.outAt hai g31).frozen (by rw [HH.out.2.2.2.2.2.1]; omega) (ofs s + a)
   have hc31:=HS3.out.2.2
   have hput:=HA.out.1.put kIIg hai g31 o31 (fun q hq => by
    rcases l31 with e | e
    ·left; rw [← e,hq]
    ·right; rw [e] at hq; have:=Option.some.inj hq; omega)
   have hbl:=(HH.out.2.1.alloc HH.out.2.1.size (.cells #[.int .i64 y] 3)).grown g31 (by rw [World.size_alloc]; have:=HH.out.2.1.size; omega) (fun q e => (kIIg.lt (HA.out.1.inn a hai) q e).1)
   have hbs1 : W1.heap.size ≤ blk s:=(HH.out.1.foot kIIg _ (.inl (by
    obtain ⟨a2,c2,he, -, -,h3⟩:=HH.out.1.out.lst
    rw [HH.out.2.2.2.2.2.1] at he h3
    simp only [Value.slice.injEq] at he
    obtain ⟨rfl, -,rfl⟩:=he
    rw [(h3 a han).1]; rfl))).1
   have HQ:=Lib.hid (And.intro hput (hbl.setCell (p:=⟨blk s,ofs s + a,none⟩) hbs1 (.slice s31 ((nth (listsTo g.es n k) a).length + 1) c31)))
   clear o31 g31 l31 hput hbl hbs1 hai
   go_wp2_with fail
   refine thenQ_mk ?_
   go_wp2_with fail
   go_roundw
   case rel => exact ⟨k + 1,vs.set a (.slice s31 ((nth (listsTo g.es n k) a).length + 1) c31),by omega,by go_num,by have h9:=HQ.out.1; rw [HH.out.2.2.2.2.1] at h9; exact h9,HQ.out.2⟩
   case measure => simp [intOf]; omega
  ·obtain rfl : k = g.es.length:=by omega
   go_wp2_with fail
   go_ret
   refine ⟨s,cap,vs,by rw [HV.out.2]; rfl, ?_,by rw [HBS.out]; exact H1.out.2.1.trans (hh.out.bel.mono (Nat.le_of_lt n1))⟩
   rw [HV.out.2,HBS.out,Int.toNat_natCast]
   exact OwnN.mono hh.out.rows (Nat.le_of_lt n1)
end Go.Proofs.YtgblfjccccdidaaGreat
end
section
namespace Go.Gra
open Go.Dfl (nth nth_mem mem_nth nth_eq nth_ext nth_set)
end Go.Gra
namespace Go.Gra
open Go.Dfl (nth nth_mem mem_nth nth_eq nth_ext nth_set)
def Stp (es : List (Int × Int)) (st : List Nat) (s : List Int × List Nat) : Prop:=∀ w ∈ s.2,(nth s.1 w = 0∧w ∈ st) ∨ ∃ u ∈ s.2,w ∈ suc es u∧nth s.1 w = nth s.1 u + 1
end Go.Gra
namespace Go.Gra
open Go.Dfl (nth nth_mem mem_nth nth_eq nth_ext nth_set)
theorem nodup_le {α : Type} [DecidableEq α] : ∀ (l m : List α),l.Nodup→(∀ x ∈ l,x ∈ m)→l.length ≤ m.length
 | [],_,_,_ => by simp
 | a :: l,m,hn,h => by
   rw [List.nodup_cons] at hn
   have h1:=nodup_le l (m.erase a) hn.2 fun x hx => by
    have hne : x ≠ a:=fun e => hn.1 (e ▸ hx)
    exact (List.mem_erase_of_ne hne).2 (h x (List.mem_cons_of_mem _ hx))
   have h2:=List.length_erase_of_mem (h a (by simp))
   have h3 : 0 < m.length:=List.length_pos_of_mem (h a (by simp))
   simp only [List.length_cons]
   omega
end Go.Gra
namespace Go.Proofs.YtgblfjccccdidaaGreat
open Go.RowKit Go.Dfl Go.Gra Go.Shelf
theorem frozen_kept {W W' : World} {row : Option Nat} {b : Nat} (hg : W.grownBy W' row) (hb : b < W.heap.size) (hr : some b ≠ row) (hf : W.frozen? ⟨b,0,none⟩ = false) : W'.frozen? ⟨b,0,none⟩ = false:=by
 rw [World.frozen?_of_block (a:=⟨b,0,none⟩) (hg.block b hb hr)]; exact hf
theorem frozen_alloc1 (W : World) (v : Value) (t : TypeId) : (W.alloc (.cells #[v] t)).frozen? ⟨W.heap.size,0,none⟩ = false:=by
 unfold World.frozen?; dsimp only; rw [heap_alloc_new]; simp
section
variable {bf bo bi B n cap : Nat} {s : Option Addr} {t : List Int × List Nat} {ov : Value} {i : Nat} {W W' : World}
end
end Go.Proofs.YtgblfjccccdidaaGreat
end
