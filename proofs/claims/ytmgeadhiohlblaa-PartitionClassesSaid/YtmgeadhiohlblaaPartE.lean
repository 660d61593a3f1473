/- partition.Of: its closure 'root', the plain law of the forest. -/
import Derived.Test.YtmgeadhiohlblaaPartD
namespace Go.Proofs.Ytmgeadhiohlblaa
open Go.RowKit Go.Dfl

def par (L : List Int) (i : Nat) : Nat := (nth L i).toNat
def Forest (L : List Int) : Prop := ∀ i, i < L.length → 0 ≤ nth L i ∧ nth L i ≤ i
/-- P says of each member its root in L. -/
structure Rooted (L P : List Int) : Prop where
  len : P.length = L.length
  up : ∀ i, i < L.length → nth P (par L i) = nth P i
  fix : ∀ i, i < L.length → nth L i = i → nth P i = i
  rng : ∀ i, i < L.length → 0 ≤ nth P i ∧ nth P i ≤ i
  root : ∀ i, i < L.length → nth L (nth P i).toNat = nth P i

theorem Forest.halve {L : List Int} (h : Forest L) (x : Nat) (hx : x < L.length) : Forest (L.set x (nth L (par L x))) := by
  intro i hi
  simp at hi
  rw [nth_set]
  by_cases e : x = i ∧ x < L.length
  · rw [if_pos e]
    obtain ⟨rfl, _⟩ := e
    have h1 := h x hx
    have h2 := h (par L x) (by unfold par; omega)
    unfold par at *
    omega
  · rw [if_neg e]; exact h i hi
theorem Rooted.halve {L P : List Int} (hF : Forest L) (h : Rooted L P) (x : Nat) (hx : x < L.length) : Rooted (L.set x (nth L (par L x))) P := by
  have h1 := hF x hx
  have hp : par L x < L.length := by unfold par; omega
  have h2 := hF (par L x) hp
  have e1 := h.up x hx
  have e2 := h.up (par L x) hp
  refine ⟨by simpa using h.len, fun i hi => ?_, fun i hi hf => ?_, fun i hi => h.rng i (by simpa using hi), fun i hi => ?_⟩
  · simp at hi
    have : par (L.set x (nth L (par L x))) i = if x = i then par L (par L x) else par L i := by
      unfold par; rw [nth_set]; split <;> split <;> first | rfl | omega
    rw [this]
    split
    · rename_i e; subst e; rw [e2, e1]
    · exact h.up i hi
  · simp at hi
    rw [nth_set] at hf
    split at hf
    · rename_i e
      obtain ⟨rfl, _⟩ := e
      apply h.fix x hx
      unfold par at *; omega
    · exact h.fix i hi hf
  · simp at hi
    have hr := h.root i hi
    have hg := h.rng i hi
    rw [nth_set]
    split
    · rename_i e
      obtain ⟨e, _⟩ := e
      have : par L x = x := by unfold par; rw [e, hr]
      rw [this, e]; exact hr
    · exact hr

def RootPost (x : Nat) (n : Nat) (P : List Int) (base : Nat) (v : Value) (w : World) (e : Ending) (w' : World) : Prop :=
  ∃ L', e = .returned (.int .i64 (nth P x)) ∧ OwnI w' base 3 v L' ∧ L'.length = n ∧ Forest L' ∧ Rooted L' P ∧ w.grownBy w' v.ownBlock

set_option maxHeartbeats 800000 in
theorem root_any (x n : Nat) (P L : List Int) (base : Nat) (v : Value) (bp : Nat) (w : World) (ho : OwnI w base 3 v L) (hn : L.length = n) (hx : x < n) (hF : Forest L) (hR : Rooted L P)
    (hbox : w.cell? ⟨bp, 0, none⟩ = some v) (hne : v.ownBlock ≠ some bp) (hn2 : n ≤ 8192) :
    Calls Try.prog 26 #[.int .i64 x, .pointer (some ⟨bp, 0, none⟩)] w (RootPost x n P base v w) := by
  obtain ⟨s, cap, rfl, -⟩ := ho.lst.out1 sInt
  rw [hn] at ho hbox hne ⊢
  have HF := Lib.hid hF
  have HR := Lib.hid hR
  have Hn := Lib.hid hn
  clear hF hR hn
  go_enter Try.func26, Try.ntmps26
  go_wp2_with fail
  go_loopw [0] (fun t wr => ∃ (y : Nat) (L' : List Int), y < n ∧ t = .int .i64 y ∧ Hid (L'.length = n ∧ nth P y = nth P x ∧ Forest L' ∧ Rooted L' P ∧ wr.cell? ⟨bp, 0, none⟩ = some (.slice s n cap) ∧ w.grownBy wr (Value.slice s n cap).ownBlock ∧ OwnI wr base 3 (.slice s n cap) L')) (fun t _ => (intOf t).toNat)
  case atStart => exact ⟨x, L, hx, rfl, Hn.out, rfl, HF.out, HR.out, hbox, World.grownBy.refl _ _, ho⟩
  case round =>
    clear hbox HF HR Hn ho hx
    obtain ⟨y, L', hy, rfl, hh⟩ := hrel
    obtain ⟨hl, hP, hF, hR, hbox, hgr, ho⟩ := hh.out
    have hf1 := hF y (by omega)
    have hf2 := hF (nth L' y).toNat (by omega)
    have hfz := ho.frozen (by omega) (ofs s + y)
    obtain ⟨a2, c2, he, hm2, hidx, hcell, _⟩ := ho.lst.out1 sInt
    simp at he
    obtain ⟨rfl, he, rfl⟩ := he
    rw [hl] at hidx hcell
    have hcy := hcell y (by omega)
    have hy1 : 0 ≤ nth L' y := hf1.1
    have hy2 : nth L' y < n := by omega
    have hcp := hcell (nth L' y).toNat (by omega)
    by_cases hstop : nth L' y = y
    · have e0 : nth P y = y := hR.fix y (by omega) hstop
      have e1 : ((y : Int) != (y : Int)) = false := by simp
      rw [hstop] at hcy
      have H1 := Lib.hid e0
      have H2 := Lib.hid (And.intro hl (And.intro hP (And.intro hF (And.intro hR (And.intro hgr ho)))))
      clear e0 hl hP hF hR hgr ho hcell hh hcp hstop he hm2 hf1 hf2
      go_wp2_with fail
      go_ret
      obtain ⟨hl, hP, hF, hR, hgr, ho⟩ := H2.out
      exact ⟨L', ret_int (by rw [← hP, H1.out]), ho, hl, hF, hR, hgr⟩
    · have hne1 : (nth L' y != (y : Int)) = true := by simpa using hstop
      have hset := ho.set y (nth L' (par L' y))
      have hlt := hf2
      have hcp0 : 0 ≤ nth L' (nth L' y).toNat := hf2.1
      have hcn : nth L' (nth L' y).toNat < n := by omega
      have hcd : nth L' (nth L' y).toNat < y := by omega
      have hbl := ho.blkge (by omega)
      have hnb : bp ≠ blk s := by
        intro e; apply hne
        have := ho.lst
        rcases s with _ | s
        · have := ho.2; simp at this; omega
        · simp [Value.ownBlock, e, blk]
      have hbs : (Value.slice s n cap).ownBlock = some (blk s) := by
        rcases s with _ | s
        · have := ho.2; simp at this; omega
        · simp [Value.ownBlock, blk]
      have hboxs : ∀ u, (wr.setCell ⟨blk s, ofs s + y, none⟩ u).cell? ⟨bp, 0, none⟩ = some (.slice s n cap) := fun u => by
        rw [World.cell?_setCell_other _ _ _ _ (by simp)]; exact hbox
      have hgr2 : ∀ u, w.grownBy (wr.setCell ⟨blk s, ofs s + y, none⟩ u) (some (blk s)) := fun u => by
        rw [hbs] at hgr
        exact ⟨hgr.os, hgr.tape, hgr.output, by simpa [World.setCell] using hgr.size, fun k hk hk2 => by
          rw [Below.heap_setCell _ _ _ _ (by simpa using fun e => hk2 (by rw [e]))]; exact hgr.block k hk hk2⟩
      have H2 := Lib.hid (And.intro hP (And.intro (hF.halve y (by omega)) (And.intro (hR.halve hF y (by omega)) (And.intro hgr2 (And.intro hset (And.intro (show nth P (nth L' (nth L' y).toNat).toNat = nth P y by
        have q1 := hR.up y (by omega)
        have q2 := hR.up (par L' y) (by unfold par; omega)
        unfold par at q1 q2; rw [q2, q1]) (And.intro hl hbs)))))))
      have hcs : (wr.setCell ⟨blk s, ofs s + y, none⟩ (.int .i64 (nth L' (nth L' y).toNat))).cell? ⟨blk s, ofs s + y, none⟩ = some (.int .i64 (nth L' (nth L' y).toNat)) := World.cell?_setCell_same _ _ _ hcy
      have hbx := hboxs (.int .i64 (nth L' (nth L' y).toNat))
      clear hl hP hF hR hgr hgr2 hset ho hcell hh hstop he hm2 hf1 hf2 hbs hboxs hlt
      go_wp2_with fail
      go_region
      go_wp2_with fail
      go_roundw
      case rel =>
        obtain ⟨hP, hF, hR, hgr2, hset, hq, hl, hbs⟩ := H2.out
        exact ⟨(nth L' (nth L' y).toNat).toNat, L'.set y (nth L' (par L' y)), by omega, by go_num, by simpa using hl, by rw [hq, hP], hF, hR, hbx, by rw [hbs]; exact grownBy_drew (hgr2 _), hset⟩
      case measure => simp [intOf]; omega

end Go.Proofs.Ytmgeadhiohlblaa
