/- The solver's beginning in memory; other blocks beside it. -/
import Derived.Test.YtkfhopnolflchaaAndI
import Derived.Test.YtkfhopnolflchaaSysM
import Derived.Test.YtkfhopnolflchaaGa
namespace Go.Proofs.Ytkfhopnolflchaa
open Go.RowKit Go.Dfl Go.And Go.Maps

section
variable {S : Syst} {w0 : World} {sv : Nat} {rl rl' : Nat → Nat} {V : Vals} {st : St} {W W' : World}
/-- A block that is none of the solver's may be written; new blocks may take a part beside the solver's. -/
theorem Mem.beside (h : Mem S w0 sv rl V st W) {row : Option Nat} (hg : W.grownBy W' row) (hrow : ∀ k, row = some k → rl k = 11) (hsame : ∀ k, k < W.heap.size → rl' k = rl k) (hfr : ∀ k, W'.heap.size ≤ k → rl' k = 0) (hlow : ∀ k, rl' k ≠ 0 → w0.heap.size ≤ k) : Mem S w0 sv rl' V st W' := by
  have hs : Stp rl rl' 11 W W' row := ⟨hg, hrow, .inl (by omega), hsame⟩
  have h1 := h.step hs (by omega) hfr hlow
  exact ⟨fun _ => h1.box (by omega), h1.rbox, h1.lbox, fun _ => h1.sets (by omega), fun _ => h1.fresh (by omega), fun _ => h1.cp (by omega), fun _ => h1.pt (by omega), fun _ => h1.ld (by omega), fun _ => h1.sr (by omega), fun _ => h1.q (by omega), fun _ => h1.todo (by omega), h1.fr, h1.bel, h1.low⟩
end

theorem is_own {α : Type} {f : α → Value} {m : Mk} {base b : Nat} {w : World} (h : m.Is base w b) (x0 : α) (hz : m.z = f x0) (hc : (f x0).cells = #[f x0]) (hs : m.size = 1) : Own f w base m.e (m.val b) (List.replicate m.n x0) := by
  unfold Mk.Is at h
  rw [hs, hz, made_cells _ _ hc] at h
  unfold Own
  simpa using h

/-- The makes of the solver. -/
def mks (N n : Nat) : List Mk :=
  [⟨2, 23, 22, 57, 60, N, .slice none 0 0, 1, 24⟩, ⟨4, 25, 24, 57, 60, N, .slice none 0 0, 1, 24⟩, ⟨6, 27, 26, 39, 27, N, .slice none 0 0, 1, 24⟩,
   ⟨9, 30, 29, 75, 96, n, .slice none 0 0, 1, 24⟩, ⟨12, 33, 32, 76, 22, n, .slice none 0 0, 1, 24⟩, ⟨15, 36, 35, 76, 22, n, .slice none 0 0, 1, 24⟩,
   ⟨17, 38, 37, 49, 4, N, .bool false, 1, 1⟩]
def vals0 (cv : Value) (N n : Nat) (bs : Nat → Nat) : Vals :=
  ⟨cv, .slice (some ⟨bs 2, 0, none⟩) N N, .slice (some ⟨bs 4, 0, none⟩) N N, .slice (some ⟨bs 6, 0, none⟩) N N, .slice (some ⟨bs 9, 0, none⟩) n n, .slice (some ⟨bs 12, 0, none⟩) n n, .slice (some ⟨bs 15, 0, none⟩) n n, .slice (some ⟨bs 17, 0, none⟩) N N, .slice none 0 0,
   List.replicate N (.slice none 0 0), List.replicate N (.slice none 0 0), List.replicate N (.slice none 0 0), List.replicate n (.slice none 0 0), List.replicate n (.slice none 0 0), List.replicate n (.slice none 0 0),
   List.replicate N [], List.replicate n [], List.replicate n [], List.replicate n [], List.replicate N false⟩
def rl0 (bs : Nat → Nat) (sv : Nat) : Nat → Nat := fun k =>
  if k = sv then 1 else if k = bs 2 then 2 else if k = bs 4 then 3 else if k = bs 6 then 4 else if k = bs 9 then 5 else if k = bs 12 then 6 else if k = bs 15 then 7 else if k = bs 17 then 8 else 0

theorem nth_rep {α : Type} [Inhabited α] (n : Nat) (x : α) {i : Nat} (h : i < n) : nth (List.replicate n x) i = x := by simp [nth, h]

set_option maxHeartbeats 1600000 in
theorem Mem.init {S : Syst} {w0 W1 W2 : World} {bs : Nat → Nat} (cv : Value) (hb : Below w0.heap.size w0 W1) (hE : MakesEnd (mks S.N S.vars) w0.heap.size W1 bs W2) :
    Mem S w0 W2.heap.size (rl0 bs W2.heap.size) (vals0 cv S.N S.vars bs) st0 (W2.alloc (.cells ((vals0 cv S.N S.vars bs).cells S) 78)) := by
  have hw0 := hb.size
  have hw1 := hE.grown.size
  have i2 := hE.is _ (by simp [mks] : (⟨2, 23, 22, 57, 60, S.N, .slice none 0 0, 1, 24⟩ : Mk) ∈ mks S.N S.vars)
  have i4 := hE.is _ (by simp [mks] : (⟨4, 25, 24, 57, 60, S.N, .slice none 0 0, 1, 24⟩ : Mk) ∈ mks S.N S.vars)
  have i6 := hE.is _ (by simp [mks] : (⟨6, 27, 26, 39, 27, S.N, .slice none 0 0, 1, 24⟩ : Mk) ∈ mks S.N S.vars)
  have i9 := hE.is _ (by simp [mks] : (⟨9, 30, 29, 75, 96, S.vars, .slice none 0 0, 1, 24⟩ : Mk) ∈ mks S.N S.vars)
  have i12 := hE.is _ (by simp [mks] : (⟨12, 33, 32, 76, 22, S.vars, .slice none 0 0, 1, 24⟩ : Mk) ∈ mks S.N S.vars)
  have i15 := hE.is _ (by simp [mks] : (⟨15, 36, 35, 76, 22, S.vars, .slice none 0 0, 1, 24⟩ : Mk) ∈ mks S.N S.vars)
  have i17 := hE.is _ (by simp [mks] : (⟨17, 38, 37, 49, 4, S.N, .bool false, 1, 1⟩ : Mk) ∈ mks S.N S.vars)
  have nb : ∀ i j, i ∈ (mks S.N S.vars).map (·.i) → j ∈ (mks S.N S.vars).map (·.i) → i ≠ j → bs i ≠ bs j := fun i j hi hj hne => by
    obtain ⟨m, hm, rfl⟩ := List.mem_map.1 hi
    obtain ⟨m', hm', rfl⟩ := List.mem_map.1 hj
    exact hE.apart m hm m' hm' hne
  have nc : ∀ i j, i ∈ [2, 4, 6, 9, 12, 15, 17] → j ∈ [2, 4, 6, 9, 12, 15, 17] → i ≠ j → bs i ≠ bs j := nb
  dsimp only at i2 i4 i6 i9 i12 i15 i17
  have g := grownBy_alloc W2 (.cells ((vals0 cv S.N S.vars bs).cells S) 78)
  have r2 : rl0 bs W2.heap.size (bs 2) = 2 := by unfold rl0; rw [if_neg (Nat.ne_of_lt i2.2.2), if_pos rfl]
  have r4 : rl0 bs W2.heap.size (bs 4) = 3 := by unfold rl0; rw [if_neg (Nat.ne_of_lt i4.2.2), if_neg (nc 4 2 (by decide) (by decide) (by decide)), if_pos rfl]
  have r6 : rl0 bs W2.heap.size (bs 6) = 4 := by unfold rl0; rw [if_neg (Nat.ne_of_lt i6.2.2), if_neg (nc 6 2 (by decide) (by decide) (by decide)), if_neg (nc 6 4 (by decide) (by decide) (by decide)), if_pos rfl]
  have r9 : rl0 bs W2.heap.size (bs 9) = 5 := by unfold rl0; rw [if_neg (Nat.ne_of_lt i9.2.2), if_neg (nc 9 2 (by decide) (by decide) (by decide)), if_neg (nc 9 4 (by decide) (by decide) (by decide)), if_neg (nc 9 6 (by decide) (by decide) (by decide)), if_pos rfl]
  have r12 : rl0 bs W2.heap.size (bs 12) = 6 := by unfold rl0; rw [if_neg (Nat.ne_of_lt i12.2.2), if_neg (nc 12 2 (by decide) (by decide) (by decide)), if_neg (nc 12 4 (by decide) (by decide) (by decide)), if_neg (nc 12 6 (by decide) (by decide) (by decide)), if_neg (nc 12 9 (by decide) (by decide) (by decide)), if_pos rfl]
  have r15 : rl0 bs W2.heap.size (bs 15) = 7 := by unfold rl0; rw [if_neg (Nat.ne_of_lt i15.2.2), if_neg (nc 15 2 (by decide) (by decide) (by decide)), if_neg (nc 15 4 (by decide) (by decide) (by decide)), if_neg (nc 15 6 (by decide) (by decide) (by decide)), if_neg (nc 15 9 (by decide) (by decide) (by decide)), if_neg (nc 15 12 (by decide) (by decide) (by decide)), if_pos rfl]
  have r17 : rl0 bs W2.heap.size (bs 17) = 8 := by unfold rl0; rw [if_neg (Nat.ne_of_lt i17.2.2), if_neg (nc 17 2 (by decide) (by decide) (by decide)), if_neg (nc 17 4 (by decide) (by decide) (by decide)), if_neg (nc 17 6 (by decide) (by decide) (by decide)), if_neg (nc 17 9 (by decide) (by decide) (by decide)), if_neg (nc 17 12 (by decide) (by decide) (by decide)), if_neg (nc 17 15 (by decide) (by decide) (by decide)), if_pos rfl]
  have nofoot : ∀ {n b k : Nat}, Foot (.slice (some ⟨b, 0, none⟩) n n) (List.replicate n (.slice none 0 0)) k → k = b := fun {n b k} hf => by
    rcases hf with h | ⟨i, hi, h⟩
    · simp [Value.ownBlock] at h; exact h.symm
    · rw [nth_rep _ _ (by simpa using hi)] at h; simp [Value.ownBlock] at h
  refine ⟨fun _ => heap_alloc_new _ _, by simp [rl0], ⟨by omega, by simp⟩, fun _ => ⟨(is_own (f := fun x : Value => x) i2.1 (.slice none 0 0) rfl rfl rfl).alloc _, fun k hk => ?_, by simp [vals0], fun i hi => ?_⟩, fun _ => ⟨(is_own (f := fun x : Value => x) i4.1 (.slice none 0 0) rfl rfl rfl).alloc _, fun k hk => ?_, by simp [vals0], fun i hi => ?_⟩,
    fun _ => ⟨(OwnN.made (is_own (f := fun x : Value => x) i6.1 (.slice none 0 0) rfl rfl rfl) (Own.nil _ _ _ _)).alloc kInt _, fun k hk => ?_, by simp [vals0], fun i hi => ?_⟩,
    fun _ => ⟨(OwnN.made (is_own (f := fun x : Value => x) i9.1 (.slice none 0 0) rfl rfl rfl) (OwnE.nil _ _ _ _)).alloc kPart _, fun k hk => ?_, by simp [vals0], fun i hi => ?_⟩,
    fun _ => ⟨(OwnN.made (is_own (f := fun x : Value => x) i12.1 (.slice none 0 0) rfl rfl rfl) (OwnE.nil _ _ _ _)).alloc kCon _, fun k hk => ?_, by simp [vals0], fun i hi => ?_⟩,
    fun _ => ⟨(OwnN.made (is_own (f := fun x : Value => x) i15.1 (.slice none 0 0) rfl rfl rfl) (OwnE.nil _ _ _ _)).alloc kCon _, fun k hk => ?_, by simp [vals0], fun i hi => ?_⟩,
    fun _ => ⟨(is_own (f := Value.bool) i17.1 false rfl rfl rfl).alloc _, fun k hk => ?_, by simp [vals0], fun i hi => ?_⟩,
    fun _ => ⟨Own.nil _ _ _ _, fun k hk => by simp [vals0, Value.ownBlock] at hk⟩, fun k hk => ?_, ?_, fun k hk => ?_⟩
  · simp [vals0, Value.ownBlock] at hk; subst hk; exact r2
  · show IsS _ _ (nth (List.replicate S.N (.slice none 0 0)) i) _
    rw [nth_rep _ _ hi]; exact IsS.nil _ _
  · simp [vals0, Value.ownBlock] at hk; subst hk; exact r4
  · show IsS _ _ (nth (List.replicate S.N (.slice none 0 0)) i) _
    rw [nth_rep _ _ hi]; exact IsS.nil _ _
  · rw [nofoot hk]; exact r6
  · show nth (List.replicate S.N []) i = _
    rw [nth_rep _ _ hi]; rfl
  · rw [nofoot hk]; exact r9
  · show PtRel _ _ (nth (List.replicate S.vars []) i) _
    rw [nth_rep _ _ hi]; exact ⟨rfl, fun j hj => by simp at hj⟩
  · rw [nofoot hk]; exact r12
  · show LdRel (nth (List.replicate S.vars []) i) _
    rw [nth_rep _ _ hi]; exact ⟨rfl, fun j hj => by simp at hj⟩
  · rw [nofoot hk]; exact r15
  · show LdRel (nth (List.replicate S.vars []) i) _
    rw [nth_rep _ _ hi]; exact ⟨rfl, fun j hj => by simp at hj⟩
  · simp [vals0, Value.ownBlock] at hk; subst hk; exact r17
  · show nth (List.replicate S.N false) i = _
    rw [nth_rep _ _ hi]; rfl
  · simp at hk
    have q2 := i2.2.2
    have q4 := i4.2.2
    have q6 := i6.2.2
    have q9 := i9.2.2
    have q12 := i12.2.2
    have q15 := i15.2.2
    have q17 := i17.2.2
    unfold rl0
    repeat (rw [if_neg (by omega)])
  · exact (hb.grown hE.grown hb.size (by simp)).grown g (by omega) (by simp)
  · unfold rl0 at hk
    repeat' split at hk
    all_goals first | omega | exact absurd rfl hk
theorem ktype : Try.prog.keyType 83 = true := by kernel_rfl
theorem cellsK : Try.prog.cellsOf 83 = 4 := by kernel_rfl
theorem cellsI : Try.prog.cellsOf 3 = 1 := by kernel_rfl
theorem keyWf (k a b f : Int) (h1 : 0 ≤ k ∧ k ≤ 1000000) (h2 : 0 ≤ a ∧ a ≤ 1000000) (h3 : 0 ≤ b ∧ b ≤ 1000000) (h4 : 0 ≤ f ∧ f ≤ 1000000) : ∃ kl, keyOf Try.prog 83 (.agg #[.int .i64 k, .int .i64 a, .int .i64 b, .int .i64 f]) = some kl := by
  have w : ∀ x : Int, 0 ≤ x ∧ x ≤ 1000000 → (Lit.int .i64 x).wf = true := fun x hx => WalkArith.wf_i64 (by omega)
  have wi : ∀ (d : Nat) (x : Int), 0 ≤ x ∧ x ≤ 1000000 → Try.prog.keyLits (d + 1) 3 [.int .i64 x] = some [.int .i64 x] := fun d x hx => by
    simp [Program.keyLits, Try.underlying3, w x hx]
  have hsz : ∃ d, Try.prog.types.size + 1 = d + 2 := ⟨Try.prog.types.size - 1, by have : 0 < Try.prog.types.size := of_decide_eq_true (by kernel_rfl); omega⟩
  obtain ⟨d, hd⟩ := hsz
  unfold keyOf
  rw [Try.underlying83, hd]
  simp only [ktype, Bool.true_and]
  have hf : (Value.agg #[.int .i64 k, .int .i64 a, .int .i64 b, .int .i64 f]).formed Try.prog 83 = true := by simp [Value.formed, Try.underlying83, cellsK]
  rw [if_pos hf]
  unfold Program.keyLits
  simp only [Try.underlying83]
  simp [cellsK, cellsI, wi, h1, h2, h3, h4, Value.cells]
end Go.Proofs.Ytkfhopnolflchaa
