/- Contracts of slices.Reverse, SameInts, Stack and the reference's Stack. -/
import Derived.Test.YtnklnklkblgnfaaObt
namespace Go.Dfl
section
variable {α : Type} [Inhabited α]
/-- The first i and the last i elements have changed places. -/
def rvs (l : List α) (i : Nat) : List α := (List.range l.length).map fun p => if p < i ∨ l.length ≤ p + i then nth l (l.length - 1 - p) else nth l p
theorem rvs_len (l : List α) (i : Nat) : (rvs l i).length = l.length := by simp [rvs]
theorem rvs_nth {l : List α} {i p : Nat} (h : p < l.length) : nth (rvs l i) p = if p < i ∨ l.length ≤ p + i then nth l (l.length - 1 - p) else nth l p := by
  unfold rvs
  rw [nth_eq _ _ (by simpa using h)]
  simp
theorem rvs_zero (l : List α) : rvs l 0 = l := nth_ext (rvs_len l 0) fun p hp => by
  rw [rvs_len] at hp
  rw [rvs_nth hp, if_neg (by omega)]
theorem rvs_all (l : List α) {i : Nat} (h : l.length ≤ 2 * i + 1) (h2 : 2 * i ≤ l.length) : rvs l i = l.reverse := nth_ext (by rw [rvs_len, List.length_reverse]) fun p hp => by
  rw [rvs_len] at hp
  rw [rvs_nth hp, nth_eq l.reverse p (by simpa using hp), List.getElem_reverse, ← nth_eq l _ (by omega)]
  split
  · rfl
  · congr 1; omega
theorem rvs_step (l : List α) {i : Nat} (h : 2 * i + 1 < l.length) : ((rvs l i).set i (nth (rvs l i) (l.length - 1 - i))).set (l.length - 1 - i) (nth (rvs l i) i) = rvs l (i + 1) := nth_ext (by simp [rvs_len]) fun p hp => by
  simp only [List.length_set, rvs_len] at hp
  rw [nth_set, List.length_set, rvs_len, nth_set, rvs_len, rvs_nth hp, rvs_nth hp, rvs_nth (by omega : i < l.length), rvs_nth (by omega : l.length - 1 - i < l.length)]
  by_cases e1 : l.length - 1 - i = p
  · rw [if_pos ⟨e1, by omega⟩, if_neg (by omega), if_pos (by omega)]
    congr 1; omega
  · rw [if_neg (fun h9 : _ ∧ _ => e1 h9.1)]
    by_cases e2 : i = p
    · rw [if_pos ⟨e2, by omega⟩, if_neg (by omega), if_pos (by omega)]
      congr 1; omega
    · rw [if_neg (fun h9 : _ ∧ _ => e2 h9.1)]
      by_cases e3 : p < i ∨ l.length ≤ p + i
      · rw [if_pos e3, if_pos (by omega)]
      · rw [if_neg e3, if_neg (by omega)]
end
end Go.Dfl
namespace Go.Proofs.Ytnklnklkblgnfaa
open Go.RowKit Go.Dfl Go.Gra Go.Obs Go.Sort Go.Maps
theorem own_int {w : World} {base n : Nat} {s : Option Addr} {cap : Nat} {l : List Int} (h : OwnI w base 3 (.slice s n cap) l) (hl : l.length = n) {x : Nat} (hx : x < n) :
    w.cell? ⟨blk s, ofs s + x, none⟩ = some (.int .i64 (nth l x)) ∧ (∀ Y, (Instr.indexAt 45 (.slice s n cap) (.int .i64 (x : Int))).run Try.prog Y = .ok (.pointer (some ⟨blk s, ofs s + x, none⟩)) Y) ∧ w.frozen? ⟨blk s, ofs s + x, none⟩ = false := by
  obtain ⟨a9, c9, he, hm9, hidx, hcell, -⟩ := h.lst.out1 sIntG
  rw [hl] at he hm9 hidx hcell
  simp only [Value.slice.injEq] at he
  obtain ⟨rfl, -, rfl⟩ := he
  exact ⟨hcell x hx, fun Y => by have := hidx .i64 (x : Int) (by omega) (by omega) Y; rw [Int.toNat_natCast] at this; exact this, h.frozen (by omega) _⟩
def RevR (base : Nat) (v : Value) (l : List Int) (W : World) (e : Ending) (W' : World) : Prop := e = .returned (.tuple #[]) ∧ OwnI W' base 3 v l.reverse ∧ W.grownBy W' v.ownBlock
set_option maxHeartbeats 1600000 in
set_option maxRecDepth 100000 in
theorem reverse_any (base : Nat) (s : Option Addr) (c : Nat) (l : List Int) (W : World) (h : OwnI W base 3 (.slice s l.length c) l) (hl : l.length ≤ 1000000000000) : Calls Try.prog 26 #[.slice s l.length c] W (RevR base (.slice s l.length c) l W) := by
  have H0 := Lib.hid h
  clear h
  go_enter Try.func26, Try.ntmps26
  go_wp2_with fail
  go_loopw [2, 3] (fun x y wr => ∃ i : Nat, 2 * i ≤ l.length + 1 ∧ x = .int .i64 (i : Int) ∧ y = .int .i64 ((l.length : Int) - 1 - (i : Int)) ∧ Hid (OwnI wr base 3 (.slice s l.length c) (rvs l i) ∧ W.grownBy wr (Value.slice s l.length c).ownBlock ∧ 2 * i ≤ l.length)) (fun x _ _ => l.length - (intOf x).toNat)
  case atStart => exact ⟨0, by omega, rfl, by simp, by rw [rvs_zero]; exact H0.out, grownBy_refl _ _, by omega⟩
  case round =>
    obtain ⟨i, hi, rfl, rfl, hh⟩ := hrel
    have HL := Lib.hid hh.out
    clear hh
    by_cases hit : 2 * i + 1 < l.length
    · have hil : (i : Int) < (l.length : Int) - 1 - (i : Int) := by omega
      obtain ⟨j, hj⟩ : ∃ j, j = l.length - 1 - i := ⟨_, rfl⟩
      have hji : (l.length : Int) - 1 - (i : Int) = (j : Int) := by omega
      rw [hji] at hil ⊢
      obtain ⟨a1, a2, a3⟩ := own_int HL.out.1 (rvs_len l i) (x := i) (by omega)
      obtain ⟨b1, b2, b3⟩ := own_int HL.out.1 (rvs_len l i) (x := j) (by omega)
      have hst := rvs_step l hit
      rw [← hj] at hst
      have hown := (HL.out.1.set i (nth (rvs l i) j)).set j (nth (rvs l i) i)
      rw [hst] at hown
      have hob : (Value.slice s l.length c).ownBlock = some (blk s) := by
        obtain ⟨-, ⟨h2, h3⟩ | ⟨q, cap2, cur, hv, -⟩⟩ := HL.out.1
        · rw [rvs_len] at h3; omega
        · simp only [Value.slice.injEq] at hv
          obtain ⟨rfl, -, -⟩ := hv; rfl
      have c1 : (wr.setCell ⟨blk s, ofs s + i, none⟩ (.int .i64 (nth (rvs l i) j))).cell? ⟨blk s, ofs s + j, none⟩ = some (.int .i64 (nth (rvs l i) j)) := by
        rw [World.cell?_setCell_other _ _ _ _ (by intro e9; have h9 := congrArg Addr.off e9; simp at h9; omega)]; exact b1
      obtain ⟨x, hx⟩ : ∃ x, x = nth (rvs l i) i := ⟨_, rfl⟩
      obtain ⟨y, hy⟩ : ∃ y, y = nth (rvs l i) j := ⟨_, rfl⟩
      rw [← hx] at a1 hown
      rw [← hy] at b1 c1 hown
      have hg : W.grownBy ((wr.setCell ⟨blk s, ofs s + i, none⟩ (.int .i64 y)).setCell ⟨blk s, ofs s + j, none⟩ (.int .i64 x)) (Value.slice s l.length c).ownBlock := by
        rw [hob]
        exact grownBy_trans (grownBy_trans (hob ▸ HL.out.2.1) (grownBy_setCell _ ⟨blk s, ofs s + i, none⟩ _)) (grownBy_setCell _ ⟨blk s, ofs s + j, none⟩ _)
      have HO := Lib.hid (And.intro hown hg)
      have HJ := Lib.hid hj
      clear hst hown hob hx hy hg hj hit hji
      go_upto_region 3 with fail
      go_region
      have HD := Lib.hid (And.intro (HO.out.1.qt (Qt.drew _)) (grownBy_drew HO.out.2))
      have hj2 : 2 * (i + 1) ≤ l.length := by have := HJ.out; omega
      have hjj : wrap64 ((j : Int) - 1) = (l.length : Int) - 1 - ((i + 1 : Nat) : Int) := by have := HJ.out; unfold wrap64; omega
      have HW := Lib.hid hjj
      clear hjj
      go_wp2_with fail
      go_roundw
      case rel => exact ⟨i + 1, by omega, by go_num, by rw [HW.out], HD.out.1, HD.out.2, hj2⟩
      case measure => simp [intOf]; omega
    · have HE : Hid (rvs l i = l.reverse) := Lib.hid (rvs_all l (by omega) HL.out.2.2)
      have hil : ¬ (i : Int) < (l.length : Int) - 1 - (i : Int) := by omega
      clear hit
      go_wp2_with fail
      go_end0
      exact ⟨rfl, by rw [← HE.out]; exact HL.out.1, HL.out.2.1⟩
def eqI (l m : List Int) : Bool := decide (l = m)
set_option maxHeartbeats 400000 in
theorem sameInts12_any (v u : Value) (l m : List Int) (w : World) (h : Ints w v l) (h' : Ints w u m) :
    Calls Try.prog 27 #[v, u] w fun e w' => e = .returned (.bool (eqI l m)) ∧ Qt w w' := by
  obtain ⟨a, cap, rfl, hm, hidx, hcell, _⟩ := h.out1 sIntG
  obtain ⟨a', cap', rfl, hm', hidx', hcell', _⟩ := h'.out1 sIntG
  clear h h'
  by_cases hlen : l.length = m.length
  · have hd : ((l.length : Int) != (m.length : Int)) = false := by simp; omega
    have Hlen := Lib.hid hlen
    have hle : l.length ≤ m.length := by omega
    clear hlen
    go_enter Try.func27, Try.ntmps27
    go_wp2
    go_loopw [5] (fun i wr => ∃ k : Nat, k ≤ l.length ∧ i = .int .i64 k ∧ Qt w wr ∧ ∀ j, j < k → nth l j = nth m j) (fun i _ => l.length - (intOf i).toNat)
    case atStart => exact ⟨0, by omega, rfl, Qt.refl _, by omega⟩
    case round =>
      obtain ⟨k, hk, rfl, ⟨nw, rfl⟩, hch⟩ := hrel
      have Hch := Lib.hid hch; clear hch
      by_cases hlt : k < l.length
      · have hck := hcell k hlt
        have hlt' : k < m.length := by omega
        have hck' := hcell' k hlt'
        by_cases h5 : nth l k = nth m k
        · have h6 : (nth l k != nth m k) = false := by simpa using h5
          have H5 := Lib.hid h5
          clear h5
          go_wp2
          go_quiet (fail)
          go_wp2
          go_roundw
          case rel => exact ⟨k + 1, by omega, by go_num, (by first | exact Qt.refl _ | exact Qt.drewN _ _ | exact (Qt.drewN _ _).trans (Qt.drewN _ _) | exact ((Qt.drewN _ _).trans (Qt.drewN _ _)).trans (Qt.drewN _ _) | exact Qt.drew _ | exact (Qt.drewN _ _).trans (Qt.drew _)), fun j hj => by
            by_cases e : j = k
            · subst e; exact H5.out
            · exact Hch.out j (by omega)⟩
          case measure => simp [intOf]; omega
        · have h6 : (nth l k != nth m k) = true := by simpa using h5
          have H5 := Lib.hid h5
          clear h5
          go_wp2
          go_quiet (fail)
          go_wp2
          go_ret
          exact ⟨ret_bool (by have := H5.out; simp [eqI]; rintro rfl; simp at this), (by first | exact Qt.refl _ | exact Qt.drewN _ _ | exact (Qt.drewN _ _).trans (Qt.drewN _ _) | exact ((Qt.drewN _ _).trans (Qt.drewN _ _)).trans (Qt.drewN _ _) | exact Qt.drew _ | exact (Qt.drewN _ _).trans (Qt.drew _))⟩
      · go_wp2
        go_ret
        exact ⟨ret_bool (by simp [eqI]; exact nth_ext Hlen.out (fun i hi => Hch.out i (by omega))), (by first | exact Qt.refl _ | exact Qt.drewN _ _ | exact (Qt.drewN _ _).trans (Qt.drewN _ _) | exact ((Qt.drewN _ _).trans (Qt.drewN _ _)).trans (Qt.drewN _ _) | exact Qt.drew _ | exact (Qt.drewN _ _).trans (Qt.drew _))⟩
  · have hd : ((l.length : Int) != (m.length : Int)) = true := by simp; omega
    have Hlen := Lib.hid hlen
    clear hlen
    go_enter Try.func27, Try.ntmps27
    go_wp2
    go_ret
    exact ⟨ret_bool (by have := Hlen.out; simp [eqI]; rintro rfl; simp at this), Qt.refl _⟩
theorem sameInts_any (v u : Value) (l m : List Int) (w : World) (h : Ints w v l) (h' : Ints w u m) :
    Calls Try.prog 15 #[v, u] w fun e w' => e = .returned (.bool (eqI l m)) ∧ Qt w w' := by
  have hs := sameInts12_any v u l m w h h'
  clear h h'
  go_enter Try.func15, Try.ntmps15
  go_wp2_with fail
  refine hs.mono ?_
  rintro e w' ⟨rfl, hq⟩
  have HQ := Lib.hid hq
  clear hs hq
  go_wp2_with fail
  go_ret
  exact ⟨rfl, HQ.out⟩
end Go.Proofs.Ytnklnklkblgnfaa
