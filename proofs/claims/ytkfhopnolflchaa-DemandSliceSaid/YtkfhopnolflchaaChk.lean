/- Contracts of subset, ascending, check, Check. -/
import Derived.Test.YtkfhopnolflchaaSysM
namespace Go.And
open Go.Dfl (nth nth_mem mem_nth nth_eq)
def subB (l : List Int) (n : Int) : Bool := l.all fun x => decide (0 ≤ x) && decide (x < n)
theorem subB_iff (l : List Int) (n : Int) : subB l n = true ↔ ∀ i, i < l.length → 0 ≤ nth l i ∧ nth l i < n := by
  unfold subB
  rw [List.all_eq_true]
  constructor
  · intro h i hi
    have := h _ (nth_mem l i hi)
    simpa using this
  · intro h x hx
    obtain ⟨i, hi, rfl⟩ := mem_nth hx
    simpa using h i hi
def ascB (l : List Int) : Bool := decide (l.Pairwise (· < ·))
theorem asc_of (l : List Int) (h : ∀ i, i + 1 < l.length → nth l i < nth l (i + 1)) : l.Pairwise (· < ·) := by
  have key : ∀ d i, i + d + 1 < l.length → nth l i < nth l (i + d + 1) := by
    intro d
    induction d with
    | zero => intro i hi; exact h i hi
    | succ d ih =>
      intro i hi
      have h1 := ih i (by omega)
      have h2 := h (i + d + 1) (by omega)
      exact Int.lt_trans h1 h2
  rw [List.pairwise_iff_getElem]
  intro i j hi hj hij
  have := key (j - i - 1) i (by omega)
  rw [show i + (j - i - 1) + 1 = j by omega, nth_eq _ _ hi, nth_eq _ _ hj] at this
  exact this
theorem asc_at {l : List Int} (h : l.Pairwise (· < ·)) {i : Nat} (hi : i + 1 < l.length) : nth l i < nth l (i + 1) := by
  rw [List.pairwise_iff_getElem] at h
  rw [nth_eq _ _ (by omega), nth_eq _ _ hi]
  exact h i (i + 1) (by omega) hi (by omega)
theorem ascB_iff (l : List Int) : ascB l = true ↔ ∀ i, i + 1 < l.length → nth l i < nth l (i + 1) := by
  unfold ascB
  rw [decide_eq_true_eq]
  exact ⟨fun h i hi => asc_at h hi, asc_of l⟩

/-- How many there are of what A names. -/
def mostOf (s : Sy) (c : R) : Int := if c.k = 1 then s.sites else s.vars
/-- The error of a constraint. -/
def conCode (s : Sy) (c : R) : Int :=
  if c.k < 1 ∨ 5 < c.k then 12
  else if c.a < 0 ∨ mostOf s c ≤ c.a ∨ c.b < 0 ∨ s.vars ≤ c.b then 4
  else if ((c.k = 3 ∨ c.k = 4) ∧ (c.f < 0 ∨ s.fields ≤ c.f)) ∨ subB c.s s.sites = false then 4
  else if (c.k ≠ 3 ∧ c.k ≠ 4 ∧ c.f ≠ 0) ∨ (c.k ≠ 5 ∧ 0 < c.s.length) then 1
  else if ascB c.s = false then 13 else 0
def firstCode (s : Sy) : List R → Int
  | [] => 0
  | c :: l => if conCode s c = 0 then firstCode s l else conCode s c
/-- The error of a small system. -/
def chkCode (s : Sy) : Int := if s.vars < 0 ∨ s.sites < 0 ∨ s.fields < 0 then 4 else firstCode s s.cons

theorem conCode_ok {s : Sy} {c : R} : conCode s c = 0 ↔ VldC s c := by
  unfold conCode
  constructor
  · intro h
    split at h
    · omega
    rename_i h1
    split at h
    · omega
    rename_i h2
    split at h
    · omega
    rename_i h3
    split at h
    · omega
    rename_i h4
    split at h
    · omega
    rename_i h5
    have hs : subB c.s s.sites = true := by
      cases hh : subB c.s s.sites
      · exact absurd (Or.inr hh) h3
      · rfl
    have ha : ascB c.s = true := by
      cases hh : ascB c.s
      · exact absurd hh h5
      · rfl
    refine ⟨by omega, ⟨by omega, ?_⟩, by omega, fun hk => ?_, fun x hx => ?_, fun h6 h7 => ?_, fun h6 => ?_, ?_⟩
    · unfold mostOf at h2
      by_cases e : c.k = 1
      · rw [if_pos e]; rw [if_pos e] at h2; omega
      · rw [if_neg e]; rw [if_neg e] at h2; omega
    · have : ¬ (c.f < 0 ∨ s.fields ≤ c.f) := fun h => h3 (.inl ⟨hk, h⟩)
      omega
    · obtain ⟨i, hi, rfl⟩ := mem_nth hx
      exact (subB_iff _ _).1 hs i hi
    · false_or_by_contra
      rename_i hh
      exact h4 (.inl ⟨h6, h7, hh⟩)
    · have : ¬ 0 < c.s.length := fun h => h4 (.inr ⟨h6, h⟩)
      exact List.length_eq_zero_iff.1 (by omega)
    · exact asc_of _ ((ascB_iff _).1 ha)
  · intro v
    have hk := v.kind
    have ha := v.a
    have hb := v.b
    have hs : subB c.s s.sites = true := (subB_iff _ _).2 fun i hi => v.s _ (nth_mem _ _ hi)
    have hasc : ascB c.s = true := by unfold ascB; simpa using v.asc
    rw [if_neg (by omega), if_neg, if_neg, if_neg, if_neg (by simp [hasc])]
    · rintro (⟨h1, h2, h3⟩ | ⟨h1, h2⟩)
      · exact h3 (v.f0 h1 h2)
      · rw [v.s0 h1] at h2; simp at h2
    · rintro (⟨h1, h2⟩ | h1)
      · have := v.f h1; omega
      · rw [hs] at h1; cases h1
    · unfold mostOf
      by_cases e : c.k = 1
      · rw [if_pos e]; rw [if_pos e] at ha; omega
      · rw [if_neg e]; rw [if_neg e] at ha; omega
theorem firstCode_ok {s : Sy} : ∀ {l : List R}, firstCode s l = 0 ↔ ∀ c ∈ l, VldC s c
  | [] => by simp [firstCode]
  | c :: l => by
    unfold firstCode
    split
    · rename_i h
      rw [firstCode_ok]
      simp [conCode_ok.1 h]
    · rename_i h
      constructor
      · intro h2; exact absurd h2 h
      · intro h2; exact absurd (conCode_ok.2 (h2 c (by simp))) h
theorem chkCode_ok {s : Sy} : chkCode s = 0 ↔ Vld s := by
  unfold chkCode
  split
  · constructor
    · intro h; omega
    · intro v; have := v.vars; have := v.sites; have := v.fields; omega
  · rename_i h
    rw [firstCode_ok]
    exact ⟨fun h2 => ⟨by omega, by omega, by omega, h2⟩, fun v => v.cons⟩
/-- .. from place k on. -/
def fromCode (s : Sy) (k : Nat) : Int := firstCode s (s.cons.drop k)
theorem fromCode_step {s : Sy} {k : Nat} (h : k < s.cons.length) : fromCode s k = if conCode s (nth s.cons k) = 0 then fromCode s (k + 1) else conCode s (nth s.cons k) := by
  unfold fromCode
  rw [List.drop_eq_getElem_cons h, firstCode, nth_eq _ _ h]
theorem fromCode_end {s : Sy} : fromCode s s.cons.length = 0 := by unfold fromCode; rw [List.drop_length]; rfl
end Go.And
namespace Go.Proofs.Ytkfhopnolflchaa
open Go.RowKit Go.Dfl Go.And

set_option maxHeartbeats 400000 in
theorem subset_any (v : Value) (l : List Int) (n : Int) (w : World) (h : Ints w v l) :
    Calls Try.prog 47 #[v, .int .i64 n] w fun e w' => e = .returned (.bool (subB l n)) ∧ Qt w w' := by
  obtain ⟨a, cap, rfl, hm, hidx, hcell, _⟩ := h.out1 sInt
  clear h
  go_enter Try.func47, Try.ntmps47
  go_wp2
  go_loop [6, 9] (fun _ i => ∃ k : Nat, k ≤ l.length ∧ i = .int .i64 k ∧ Hid (∀ i, i < k → 0 ≤ nth l i ∧ nth l i < n)) (fun _ i => l.length - (intOf i).toNat)
  case atStart => exact ⟨0, by omega, rfl, fun i hi => by omega⟩
  case round =>
    obtain ⟨k, hk, rfl, hch⟩ := hrel
    by_cases hlt : k < l.length
    · have hck := hcell k hlt
      by_cases h1 : nth l k < 0
      · go_wp2
        go_ret
        refine ⟨ret_bool ?_, Qt.refl _⟩
        symm
        rw [Bool.eq_false_iff]
        intro hh
        have := (subB_iff _ _).1 hh k hlt
        omega
      · by_cases h2 : n ≤ nth l k
        · go_wp2
          go_ret
          refine ⟨ret_bool ?_, Qt.refl _⟩
          symm
          rw [Bool.eq_false_iff]
          intro hh
          have := (subB_iff _ _).1 hh k hlt
          omega
        · go_wp2
          go_round
          case rel => exact ⟨k + 1, by omega, by go_num, fun i hi => by
            by_cases e : i = k
            · subst e; omega
            · exact hch.out i (by omega)⟩
          case measure => simp [intOf]; omega
    · go_wp2
      go_ret
      exact ⟨ret_bool ((subB_iff _ _).2 fun i hi => hch.out i (by omega)).symm, Qt.refl _⟩

set_option maxHeartbeats 400000 in
theorem ascending_any (v : Value) (l : List Int) (w : World) (h : Ints w v l) :
    Calls Try.prog 48 #[v] w fun e w' => e = .returned (.bool (ascB l)) ∧ Qt w w' := by
  obtain ⟨a, cap, rfl, hm, hidx, hcell, _⟩ := h.out1 sInt
  clear h
  go_enter Try.func48, Try.ntmps48
  go_wp2
  go_loopw [3] (fun i wr => ∃ k : Nat, 1 ≤ k ∧ i = .int .i64 k ∧ Qt w wr ∧ (k ≤ l.length ∨ k = 1) ∧ Hid (∀ i, i + 1 < k → nth l i < nth l (i + 1))) (fun i _ => l.length + 1 - (intOf i).toNat)
  case atStart => exact ⟨1, by omega, rfl, Qt.refl _, by omega, fun i hi => by omega⟩
  case round =>
    obtain ⟨k, hk, rfl, ⟨nw, rfl⟩, hk2, hch⟩ := hrel
    by_cases hlt : k < l.length
    · obtain ⟨m, rfl⟩ : ∃ m, k = m + 1 := ⟨k - 1, by omega⟩
      have hck := hcell (m + 1) hlt
      have hck2 := hcell m (by omega)
      have hw : IntKind.i64.wrap (m : Int) = m := IntWalk.i64_in _ (by omega)
      have hm1 : (m : Int) < (l.length : Int) := by omega
      have hm2 : (m : Int) + 1 < (l.length : Int) := by omega
      have hm3 : (0 : Int) ≤ (m : Int) := by omega
      have hm4 : (0 : Int) ≤ (m : Int) + 1 := by omega
      have hm5 : ((m : Int) + 1).toNat = m + 1 := by omega
      by_cases h1 : nth l (m + 1) ≤ nth l m
      · have hd : decide (nth l m ≥ nth l (m + 1)) = true := by simpa using h1
        go_wp2
        go_quiet (fail)
        go_wp2
        go_ret
        refine ⟨ret_bool ?_, (by first | exact Qt.refl _ | exact Qt.drewN _ _ | exact (Qt.drewN _ _).trans (Qt.drewN _ _) | exact ((Qt.drewN _ _).trans (Qt.drewN _ _)).trans (Qt.drewN _ _) | exact Qt.drew _ | exact (Qt.drewN _ _).trans (Qt.drew _))⟩
        symm
        rw [Bool.eq_false_iff]
        intro hh
        have := (ascB_iff _).1 hh m hlt
        omega
      · have hd : decide (nth l m ≥ nth l (m + 1)) = false := by simpa using h1
        go_wp2
        go_quiet (fail)
        go_wp2
        go_roundw
        case rel => exact ⟨m + 2, by omega, by go_num, (by first | exact Qt.refl _ | exact Qt.drewN _ _ | exact (Qt.drewN _ _).trans (Qt.drewN _ _) | exact ((Qt.drewN _ _).trans (Qt.drewN _ _)).trans (Qt.drewN _ _) | exact Qt.drew _ | exact (Qt.drewN _ _).trans (Qt.drew _)), by omega, fun i hi => by
          by_cases e : i = m
          · subst e; omega
          · exact hch.out i (by omega)⟩
        case measure => simp [intOf]; omega
    · go_wp2
      go_ret
      exact ⟨ret_bool ((ascB_iff _).2 fun i hi => hch.out i (by omega)).symm, (by first | exact Qt.refl _ | exact Qt.drewN _ _ | exact (Qt.drewN _ _).trans (Qt.drewN _ _) | exact ((Qt.drewN _ _).trans (Qt.drewN _ _)).trans (Qt.drewN _ _) | exact Qt.drew _ | exact (Qt.drewN _ _).trans (Qt.drew _))⟩
end Go.Proofs.Ytkfhopnolflchaa
