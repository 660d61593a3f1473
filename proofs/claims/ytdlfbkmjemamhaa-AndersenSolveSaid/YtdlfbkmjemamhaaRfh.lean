/- Contract of the reference's holds. -/
import Derived.Test.YtdlfbkmjemamhaaTba
namespace Go.Proofs.Ytdlfbkmjemamhaa
open Go.RowKit Go.Dfl Go.And

def HoldsR (S : Syst) (p : Nat → Nat → Prop) (c : C) (W : World) (e : Ending) (W' : World) : Prop := ∃ b, e = .returned (.bool b) ∧ (b = true ↔ Holds S p c) ∧ Below W.heap.size W W'
/-- What holds reads. -/
structure HBox (Z : World) (bs bp bc : Nat) (S : Syst) (u1 u2 : Value) (k a b f : Nat) (sv : Value) : Prop where
  f2 : Z.cell? ⟨bs, 2, none⟩ = some (.int .i64 (S.fields : Int))
  p0 : Z.cell? ⟨bp, 0, none⟩ = some u1
  p1 : Z.cell? ⟨bp, 1, none⟩ = some u2
  box : BoxC Z bc k a b f sv
theorem HBox.new (W : World) (S : Syst) (cv u1 u2 : Value) (k a b f : Nat) (sv : Value) (t1 t2 t3 : TypeId) :
    HBox (((W.alloc (.cells #[.int .i64 (S.vars : Int), .int .i64 S.sites, .int .i64 S.fields, cv] t1)).alloc (.cells #[u1, u2] t2)).alloc (.cells #[.int .i64 (k : Int), .int .i64 a, .int .i64 b, .int .i64 f, sv] t3)) W.heap.size (W.heap.size + 1) (W.heap.size + 2) S u1 u2 k a b f sv := by
  have gB := grownBy_alloc (W.alloc (.cells #[.int .i64 (S.vars : Int), .int .i64 S.sites, .int .i64 S.fields, cv] t1)) (.cells #[u1, u2] t2)
  have gC := grownBy_alloc ((W.alloc (.cells #[.int .i64 (S.vars : Int), .int .i64 S.sites, .int .i64 S.fields, cv] t1)).alloc (.cells #[u1, u2] t2)) (.cells #[.int .i64 (k : Int), .int .i64 a, .int .i64 b, .int .i64 f, sv] t3)
  have hn := cells_new (W := W) (cs := [.int .i64 (S.vars : Int), .int .i64 S.sites, .int .i64 S.fields, cv]) (t := t1) rfl
  have hm := cells_new (W := W.alloc (.cells #[.int .i64 (S.vars : Int), .int .i64 S.sites, .int .i64 S.fields, cv] t1)) (cs := [u1, u2]) (t := t2) (B := W.heap.size + 1) (by simp)
  refine ⟨gC.cell (gB.cell (hn 2 _ rfl) (by simp)) (by simp), gC.cell (hm 0 _ rfl) (by simp), gC.cell (hm 1 _ rfl) (by simp), ?_⟩
  have := BoxC.new ((W.alloc (.cells #[.int .i64 (S.vars : Int), .int .i64 S.sites, .int .i64 S.fields, cv] t1)).alloc (.cells #[u1, u2] t2)) k a b f sv t3
  simpa using this
theorem below3' (W : World) (a b c : Obj) : Below W.heap.size W (((W.alloc a).alloc b).alloc c) := (((Below.refl W.heap.size W).alloc (Nat.le_refl _) a).alloc (by simp) b).alloc (by simp; omega) c
theorem part_mem {ll : List (List Int)} {i j : Nat} (h : ∀ x ∈ nth ll i, 0 ≤ x) : partB (nth ll i) (nth ll j) = true ↔ ∀ x : Nat, (x : Int) ∈ nth ll i → (x : Int) ∈ nth ll j := by
  rw [partB_iff]
  constructor
  · intro hp x hx
    obtain ⟨q, hq, e⟩ := mem_nth hx
    rw [← e]; exact hp q hq
  · intro hp q hq
    have := h _ (nth_mem _ _ hq)
    have h2 := hp (nth (nth ll i) q).toNat
    rw [Int.toNat_of_nonneg this] at h2
    exact h2 (nth_mem _ _ hq)

set_option maxHeartbeats 6400000 in
set_option maxRecDepth 100000 in
theorem rHolds1 (S : Syst) (cv : Value) (c : C) (sa : Option Addr) (sc : Nat) (u1 u2 : Value) (a1 a2 : List (List Int)) (W : World) (hu : PtsIn W u1 u2 a1 a2) (hl1 : a1.length = S.vars) (hl2 : a2.length = S.sites * S.fields)
    (hin : ∀ i, i < S.N → ∀ x ∈ nth (a1 ++ a2) i, 0 ≤ x ∧ x < S.sites) (hc : c.Ok S) (hkk : c.k = 1) (hB : S.vars ≤ 40 ∧ S.sites ≤ 12 ∧ S.fields ≤ 5 ∧ S.N ≤ 100) (hset : Ints W (.slice sa c.s.length sc) (c.s.map fun x : Nat => (x : Int))) :
    Calls Try.prog 29 #[.agg #[.int .i64 S.vars, .int .i64 S.sites, .int .i64 S.fields, cv], .agg #[u1, u2], .agg #[.int .i64 c.k, .int .i64 c.a, .int .i64 c.b, .int .i64 c.f, .slice sa c.s.length sc]] W (HoldsR S (fun i x => (x : Int) ∈ nth (a1 ++ a2) i) c W) := by
  obtain ⟨⟨us1, hu1⟩, us2, hu2⟩ := hu
  obtain ⟨ua1, uc1, e1, hm1, hi1, hcl1, hb1⟩ := hu1.1.out1 sInt2
  obtain ⟨ua2, uc2, e2, hm2, hi2, hcl2, hb2⟩ := hu2.1.out1 sInt2
  rw [hu1.2.1, hl1] at e1 hm1 hi1 hcl1 hb1
  rw [hu2.2.1, hl2] at e2 hm2 hi2 hcl2 hb2
  subst e1 e2
  obtain ⟨nC, hnC⟩ : ∃ nC, nC = S.sites * S.fields := ⟨_, rfl⟩
  rw [← hnC] at hm2 hi2 hcl2 hb2 hl2 ⊢
  obtain ⟨bv, bsi, bf, bN⟩ := hB
  have g1 : ∀ i, i < S.vars → Ints W (nth us1 i) (nth (a1 ++ a2) i) := fun i hi => by
    rw [nth_append, if_pos (by omega)]; exact hu1.2.2 i (by omega)
  have g2 : ∀ i, i < nC → Ints W (nth us2 i) (nth (a1 ++ a2) (S.vars + i)) := fun i hi => by
    rw [nth_append, if_neg (by omega), hl1, Nat.add_sub_cancel_left]; exact hu2.2.2 i (by omega)
  have HX := Lib.hid (And.intro hin (And.intro hc (And.intro hset (And.intro g1 (And.intro g2 (And.intro (fun i hi => ⟨hcl1 i hi, hb1 i hi⟩ : ∀ i, i < S.vars → W.cell? ⟨blk ua1, ofs ua1 + i, none⟩ = some (nth us1 i) ∧ blk ua1 < W.heap.size) (fun i hi => ⟨hcl2 i hi, hb2 i hi⟩ : ∀ i, i < nC → W.cell? ⟨blk ua2, ofs ua2 + i, none⟩ = some (nth us2 i) ∧ blk ua2 < W.heap.size)))))))
  generalize a1 ++ a2 = ll at *
  have hck := hc.kind
  have hbv := hc.b
  have hNd : S.N = S.vars + nC := by rw [hnC]; rfl
  have hcl : ∀ y, y < S.sites → c.f < S.fields → y * S.fields + c.f < nC := fun y hy hf => by
    have h1 := Nat.mul_le_mul_right S.fields (Nat.succ_le_of_lt hy)
    rw [Nat.succ_mul] at h1; omega
  have HND := Lib.hid (And.intro hNd hcl)
  clear hin hc hset g1 g2 hcl1 hcl2 hb1 hb2 hu1 hu2 hl1 hl2 hNd hnC hcl
  obtain ⟨ck, c_a, c_b, c_f, c_s⟩ := c
  dsimp only at *
  obtain rfl : ck = 1 := hkk
  rw [show ((1 : Nat) : Int) = 1 from rfl]
  go_enter Try.func29, Try.ntmps29
  go_wp2_with fail
  refine wp_gen (fun Z => HBox Z W.heap.size (W.heap.size + 1) (W.heap.size + 2) S (.slice ua1 S.vars uc1) (.slice ua2 nC uc2) 1 c_a c_b c_f (.slice sa c_s.length sc) ∧ Below W.heap.size W Z) ⟨HBox.new W S cv _ _ 1 c_a c_b c_f _ _ _ _, below3' _ _ _ _⟩ ?_
  rintro W1 h1
  obtain ⟨bs, hbs⟩ : ∃ bs, bs = W.heap.size := ⟨_, rfl⟩
  obtain ⟨bp, hbp⟩ : ∃ bp, bp = W.heap.size + 1 := ⟨_, rfl⟩
  obtain ⟨bc, hbc⟩ : ∃ bc, bc = W.heap.size + 2 := ⟨_, rfl⟩
  have H1 : Hid (HBox W1 bs bp bc S (.slice ua1 S.vars uc1) (.slice ua2 nC uc2) 1 c_a c_b c_f (.slice sa c_s.length sc) ∧ Below W.heap.size W W1) := by rw [hbs, hbp, hbc]; exact h1
  rw [← hbc, ← hbp, ← hbs]
  clear h1 hbc hbp hbs
  obtain ⟨f2, p0, p1, ⟨q1, q2, q3, q4, q5⟩⟩ := H1.out.1
  have r1 : W1.cell? ⟨blk ua1, ofs ua1 + c_b, none⟩ = some (nth us1 c_b) := by rw [H1.out.2.cell (p := ⟨blk ua1, ofs ua1 + c_b, none⟩) (HX.out.2.2.2.2.2.1 c_b hbv).2]; exact (HX.out.2.2.2.2.2.1 c_b hbv).1
  have hcall : ∀ n, Calls Try.prog 48 #[nth us1 c_b, .int .i64 (c_a : Int)] (W1.drewN n) fun e w' => e = .returned (.bool ((nth ll c_b).contains (c_a : Int))) ∧ Qt (W1.drewN n) w' := fun n => rHas_any _ _ _ _ (((HX.out.2.2.2.1 c_b hbv).below H1.out.2).qt (Qt.drewN _ _))
  have HCall := Lib.hid hcall
  clear hcall
  go_quiet ((go_at_call 48; exact Qt.quiet (HCall.out _)))
  go_wp2_with fail
  go_ret
  refine ⟨_, rfl, ?_, below_drewN H1.out.2 _⟩
  rw [holds1, List.contains_iff_mem]

set_option maxHeartbeats 6400000 in
set_option maxRecDepth 100000 in
theorem rHolds2 (S : Syst) (cv : Value) (c : C) (sa : Option Addr) (sc : Nat) (u1 u2 : Value) (a1 a2 : List (List Int)) (W : World) (hu : PtsIn W u1 u2 a1 a2) (hl1 : a1.length = S.vars) (hl2 : a2.length = S.sites * S.fields)
    (hin : ∀ i, i < S.N → ∀ x ∈ nth (a1 ++ a2) i, 0 ≤ x ∧ x < S.sites) (hc : c.Ok S) (hkk : c.k = 2) (hB : S.vars ≤ 40 ∧ S.sites ≤ 12 ∧ S.fields ≤ 5 ∧ S.N ≤ 100) (hset : Ints W (.slice sa c.s.length sc) (c.s.map fun x : Nat => (x : Int))) :
    Calls Try.prog 29 #[.agg #[.int .i64 S.vars, .int .i64 S.sites, .int .i64 S.fields, cv], .agg #[u1, u2], .agg #[.int .i64 c.k, .int .i64 c.a, .int .i64 c.b, .int .i64 c.f, .slice sa c.s.length sc]] W (HoldsR S (fun i x => (x : Int) ∈ nth (a1 ++ a2) i) c W) := by
  obtain ⟨⟨us1, hu1⟩, us2, hu2⟩ := hu
  obtain ⟨ua1, uc1, e1, hm1, hi1, hcl1, hb1⟩ := hu1.1.out1 sInt2
  obtain ⟨ua2, uc2, e2, hm2, hi2, hcl2, hb2⟩ := hu2.1.out1 sInt2
  rw [hu1.2.1, hl1] at e1 hm1 hi1 hcl1 hb1
  rw [hu2.2.1, hl2] at e2 hm2 hi2 hcl2 hb2
  subst e1 e2
  obtain ⟨nC, hnC⟩ : ∃ nC, nC = S.sites * S.fields := ⟨_, rfl⟩
  rw [← hnC] at hm2 hi2 hcl2 hb2 hl2 ⊢
  obtain ⟨bv, bsi, bf, bN⟩ := hB
  have g1 : ∀ i, i < S.vars → Ints W (nth us1 i) (nth (a1 ++ a2) i) := fun i hi => by
    rw [nth_append, if_pos (by omega)]; exact hu1.2.2 i (by omega)
  have g2 : ∀ i, i < nC → Ints W (nth us2 i) (nth (a1 ++ a2) (S.vars + i)) := fun i hi => by
    rw [nth_append, if_neg (by omega), hl1, Nat.add_sub_cancel_left]; exact hu2.2.2 i (by omega)
  have HX := Lib.hid (And.intro hin (And.intro hc (And.intro hset (And.intro g1 (And.intro g2 (And.intro (fun i hi => ⟨hcl1 i hi, hb1 i hi⟩ : ∀ i, i < S.vars → W.cell? ⟨blk ua1, ofs ua1 + i, none⟩ = some (nth us1 i) ∧ blk ua1 < W.heap.size) (fun i hi => ⟨hcl2 i hi, hb2 i hi⟩ : ∀ i, i < nC → W.cell? ⟨blk ua2, ofs ua2 + i, none⟩ = some (nth us2 i) ∧ blk ua2 < W.heap.size)))))))
  generalize a1 ++ a2 = ll at *
  have hck := hc.kind
  have hbv := hc.b
  have hNd : S.N = S.vars + nC := by rw [hnC]; rfl
  have hcl : ∀ y, y < S.sites → c.f < S.fields → y * S.fields + c.f < nC := fun y hy hf => by
    have h1 := Nat.mul_le_mul_right S.fields (Nat.succ_le_of_lt hy)
    rw [Nat.succ_mul] at h1; omega
  have HND := Lib.hid (And.intro hNd hcl)
  clear hin hc hset g1 g2 hcl1 hcl2 hb1 hb2 hu1 hu2 hl1 hl2 hNd hnC hcl
  obtain ⟨ck, c_a, c_b, c_f, c_s⟩ := c
  dsimp only at *
  obtain rfl : ck = 2 := hkk
  have hav : c_a < S.vars := by have h := HX.out.2.1.a; simpa using h
  rw [show ((2 : Nat) : Int) = 2 from rfl]
  go_enter Try.func29, Try.ntmps29
  go_wp2_with fail
  refine wp_gen (fun Z => HBox Z W.heap.size (W.heap.size + 1) (W.heap.size + 2) S (.slice ua1 S.vars uc1) (.slice ua2 nC uc2) 2 c_a c_b c_f (.slice sa c_s.length sc) ∧ Below W.heap.size W Z) ⟨HBox.new W S cv _ _ 2 c_a c_b c_f _ _ _ _, below3' _ _ _ _⟩ ?_
  rintro W1 h1
  obtain ⟨bs, hbs⟩ : ∃ bs, bs = W.heap.size := ⟨_, rfl⟩
  obtain ⟨bp, hbp⟩ : ∃ bp, bp = W.heap.size + 1 := ⟨_, rfl⟩
  obtain ⟨bc, hbc⟩ : ∃ bc, bc = W.heap.size + 2 := ⟨_, rfl⟩
  have H1 : Hid (HBox W1 bs bp bc S (.slice ua1 S.vars uc1) (.slice ua2 nC uc2) 2 c_a c_b c_f (.slice sa c_s.length sc) ∧ Below W.heap.size W W1) := by rw [hbs, hbp, hbc]; exact h1
  rw [← hbc, ← hbp, ← hbs]
  clear h1 hbc hbp hbs
  obtain ⟨f2, p0, p1, ⟨q1, q2, q3, q4, q5⟩⟩ := H1.out.1
  have r1 : W1.cell? ⟨blk ua1, ofs ua1 + c_b, none⟩ = some (nth us1 c_b) := by rw [H1.out.2.cell (p := ⟨blk ua1, ofs ua1 + c_b, none⟩) (HX.out.2.2.2.2.2.1 c_b hbv).2]; exact (HX.out.2.2.2.2.2.1 c_b hbv).1
  have r2 : W1.cell? ⟨blk ua1, ofs ua1 + c_a, none⟩ = some (nth us1 c_a) := by rw [H1.out.2.cell (p := ⟨blk ua1, ofs ua1 + c_a, none⟩) (HX.out.2.2.2.2.2.1 c_a hav).2]; exact (HX.out.2.2.2.2.2.1 c_a hav).1
  have hcall : ∀ n, Calls Try.prog 49 #[nth us1 c_a, nth us1 c_b] (W1.drewN n) fun e w' => e = .returned (.bool (partB (nth ll c_a) (nth ll c_b))) ∧ Qt (W1.drewN n) w' := fun n => rPart_any _ _ _ _ _ (((HX.out.2.2.2.1 c_a hav).below H1.out.2).qt (Qt.drewN _ _)) (((HX.out.2.2.2.1 c_b hbv).below H1.out.2).qt (Qt.drewN _ _))
  have HCall := Lib.hid hcall
  clear hcall
  go_quiet ((go_at_call 49; exact Qt.quiet (HCall.out _)))
  go_wp2_with fail
  go_ret
  refine ⟨_, rfl, ?_, below_drewN H1.out.2 _⟩
  rw [holds2]
  exact part_mem fun x hx => (HX.out.1 c_a (by have := HND.out.1; omega) x hx).1

set_option maxHeartbeats 6400000 in
set_option maxRecDepth 100000 in
theorem rHolds3 (S : Syst) (cv : Value) (c : C) (sa : Option Addr) (sc : Nat) (u1 u2 : Value) (a1 a2 : List (List Int)) (W : World) (hu : PtsIn W u1 u2 a1 a2) (hl1 : a1.length = S.vars) (hl2 : a2.length = S.sites * S.fields)
    (hin : ∀ i, i < S.N → ∀ x ∈ nth (a1 ++ a2) i, 0 ≤ x ∧ x < S.sites) (hc : c.Ok S) (hkk : c.k = 3) (hB : S.vars ≤ 40 ∧ S.sites ≤ 12 ∧ S.fields ≤ 5 ∧ S.N ≤ 100) (hset : Ints W (.slice sa c.s.length sc) (c.s.map fun x : Nat => (x : Int))) :
    Calls Try.prog 29 #[.agg #[.int .i64 S.vars, .int .i64 S.sites, .int .i64 S.fields, cv], .agg #[u1, u2], .agg #[.int .i64 c.k, .int .i64 c.a, .int .i64 c.b, .int .i64 c.f, .slice sa c.s.length sc]] W (HoldsR S (fun i x => (x : Int) ∈ nth (a1 ++ a2) i) c W) := by
  obtain ⟨⟨us1, hu1⟩, us2, hu2⟩ := hu
  obtain ⟨ua1, uc1, e1, hm1, hi1, hcl1, hb1⟩ := hu1.1.out1 sInt2
  obtain ⟨ua2, uc2, e2, hm2, hi2, hcl2, hb2⟩ := hu2.1.out1 sInt2
  rw [hu1.2.1, hl1] at e1 hm1 hi1 hcl1 hb1
  rw [hu2.2.1, hl2] at e2 hm2 hi2 hcl2 hb2
  subst e1 e2
  obtain ⟨nC, hnC⟩ : ∃ nC, nC = S.sites * S.fields := ⟨_, rfl⟩
  rw [← hnC] at hm2 hi2 hcl2 hb2 hl2 ⊢
  obtain ⟨bv, bsi, bf, bN⟩ := hB
  have g1 : ∀ i, i < S.vars → Ints W (nth us1 i) (nth (a1 ++ a2) i) := fun i hi => by
    rw [nth_append, if_pos (by omega)]; exact hu1.2.2 i (by omega)
  have g2 : ∀ i, i < nC → Ints W (nth us2 i) (nth (a1 ++ a2) (S.vars + i)) := fun i hi => by
    rw [nth_append, if_neg (by omega), hl1, Nat.add_sub_cancel_left]; exact hu2.2.2 i (by omega)
  have HX := Lib.hid (And.intro hin (And.intro hc (And.intro hset (And.intro g1 (And.intro g2 (And.intro (fun i hi => ⟨hcl1 i hi, hb1 i hi⟩ : ∀ i, i < S.vars → W.cell? ⟨blk ua1, ofs ua1 + i, none⟩ = some (nth us1 i) ∧ blk ua1 < W.heap.size) (fun i hi => ⟨hcl2 i hi, hb2 i hi⟩ : ∀ i, i < nC → W.cell? ⟨blk ua2, ofs ua2 + i, none⟩ = some (nth us2 i) ∧ blk ua2 < W.heap.size)))))))
  generalize a1 ++ a2 = ll at *
  have hck := hc.kind
  have hbv := hc.b
  have hNd : S.N = S.vars + nC := by rw [hnC]; rfl
  have hcl : ∀ y, y < S.sites → c.f < S.fields → y * S.fields + c.f < nC := fun y hy hf => by
    have h1 := Nat.mul_le_mul_right S.fields (Nat.succ_le_of_lt hy)
    rw [Nat.succ_mul] at h1; omega
  have HND := Lib.hid (And.intro hNd hcl)
  clear hin hc hset g1 g2 hcl1 hcl2 hb1 hb2 hu1 hu2 hl1 hl2 hNd hnC hcl
  obtain ⟨ck, c_a, c_b, c_f, c_s⟩ := c
  dsimp only at *
  obtain rfl : ck = 3 := hkk
  have hav : c_a < S.vars := by have h := HX.out.2.1.a; simpa using h
  have hf : c_f < S.fields := HX.out.2.1.f (.inl rfl)
  have hNf : ∀ y, y < S.sites → S.cell y c_f < S.N := fun y hy => Syst.cell_lt hy hf
  have HNF := Lib.hid hNf
  clear hNf
  have hW0 := below3' W (.cells #[.int .i64 (S.vars : Int), .int .i64 S.sites, .int .i64 S.fields, cv] 24) (.cells #[.slice ua1 S.vars uc1, .slice ua2 nC uc2] 29) (.cells #[.int .i64 3, .int .i64 c_a, .int .i64 c_b, .int .i64 c_f, .slice sa c_s.length sc] 39)
  have r0 := (HX.out.2.2.2.2.2.1 c_a hav).1
  rw [← hW0.cell (p := ⟨blk ua1, ofs ua1 + c_a, none⟩) (HX.out.2.2.2.2.2.1 c_a hav).2] at r0
  obtain ⟨xa, xc, hxa, hxm, hxi, hxc, hxb⟩ := (HX.out.2.2.2.1 c_a hav).out1 sInt
  rw [hxa] at r0
  obtain ⟨L, hL⟩ : ∃ L, L = nth ll c_a := ⟨_, rfl⟩
  rw [← hL] at r0 hxm hxi hxc hxb
  have HL := Lib.hid (And.intro hL (And.intro hxc hxb))
  clear hW0 hxa hL hxc hxb
  rw [show ((3 : Nat) : Int) = 3 from rfl]
  go_enter Try.func29, Try.ntmps29
  go_wp2_with fail
  clear r0
  refine wp_gen (fun Z => HBox Z W.heap.size (W.heap.size + 1) (W.heap.size + 2) S (.slice ua1 S.vars uc1) (.slice ua2 nC uc2) 3 c_a c_b c_f (.slice sa c_s.length sc) ∧ Below W.heap.size W Z) ⟨HBox.new W S cv _ _ 3 c_a c_b c_f _ _ _ _, below3' _ _ _ _⟩ ?_
  rintro W1 h1
  obtain ⟨bs, hbs⟩ : ∃ bs, bs = W.heap.size := ⟨_, rfl⟩
  obtain ⟨bp, hbp⟩ : ∃ bp, bp = W.heap.size + 1 := ⟨_, rfl⟩
  obtain ⟨bc, hbc⟩ : ∃ bc, bc = W.heap.size + 2 := ⟨_, rfl⟩
  have H1 : Hid (HBox W1 bs bp bc S (.slice ua1 S.vars uc1) (.slice ua2 nC uc2) 3 c_a c_b c_f (.slice sa c_s.length sc) ∧ Below W.heap.size W W1) := by rw [hbs, hbp, hbc]; exact h1
  rw [← hbc, ← hbp, ← hbs]
  clear h1 hbc hbp hbs
  obtain ⟨f2, p0, p1, ⟨q1, q2, q3, q4, q5⟩⟩ := H1.out.1
  go_loopw [9] (fun x wr => ∃ j : Nat, j ≤ L.length ∧ x = .int .i64 j ∧ Qt W1 wr ∧ Hid (∀ i, i < j → ∀ y : Nat, (y : Int) = nth L i → partB (nth ll (S.cell y c_f)) (nth ll (c_b)) = true)) (fun x _ => L.length - (intOf x).toNat)
  case atStart => exact ⟨0, by omega, rfl, Qt.refl _, fun i hi => by omega⟩
  case round =>
    obtain ⟨j, hj, rfl, ⟨nw, rfl⟩, hch⟩ := hrel
    by_cases hlt : j < L.length
    · have hy := HX.out.1 c_a (by have := HND.out.1; omega) (nth L j) (by rw [← HL.out.1]; exact nth_mem _ _ hlt)
      have hc0 : W1.cell? ⟨blk xa, ofs xa + j, none⟩ = some (.int .i64 (nth L j)) := by rw [H1.out.2.cell (p := ⟨blk xa, ofs xa + j, none⟩) (HL.out.2.2 j hlt)]; exact HL.out.2.1 j hlt
      obtain ⟨y, hyy⟩ : ∃ y : Nat, (y : Int) = nth L j := ⟨(nth L j).toNat, Int.toNat_of_nonneg hy.1⟩
      rw [← hyy] at hc0 hy
      have hys : y < S.sites := by omega
      obtain ⟨n, hn⟩ : ∃ n, n = y * S.fields + c_f := ⟨_, rfl⟩
      have hnC : n < nC := by rw [hn]; exact HND.out.2 y hys hf
      have hmn : (y : Int) * (S.fields : Int) + (c_f : Int) = (n : Int) := by rw [hn]; simp
      have hm0 : 0 ≤ (y : Int) * (S.fields : Int) := Int.mul_nonneg (by omega) (by omega)
      have hm1 : (n : Int) ≤ 100 := by have := HND.out.1; omega
      have hix : ∀ Z, (Instr.indexAt 27 (.slice ua2 nC uc2) (.int .i64 ((y : Int) * (S.fields : Int) + (c_f : Int)))).run Try.prog Z = .ok (.pointer (some ⟨blk ua2, ofs ua2 + n, none⟩)) Z := fun Z => by
        have := hi2 .i64 ((y : Int) * (S.fields : Int) + (c_f : Int)) (by omega) (by omega) Z
        rw [this, hmn, Int.toNat_natCast]
      have hw1 : IntKind.i64.wrap ((y : Int) * (S.fields : Int)) = (y : Int) * (S.fields : Int) := IntWalk.i64_in _ (by omega)
      have hw2 : IntKind.i64.wrap ((y : Int) * (S.fields : Int) + (c_f : Int)) = (y : Int) * (S.fields : Int) + (c_f : Int) := IntWalk.i64_in _ (by omega)
      have r1 : W1.cell? ⟨blk ua1, ofs ua1 + c_b, none⟩ = some (nth us1 c_b) := by rw [H1.out.2.cell (p := ⟨blk ua1, ofs ua1 + c_b, none⟩) (HX.out.2.2.2.2.2.1 c_b hbv).2]; exact (HX.out.2.2.2.2.2.1 c_b hbv).1
      have r2 : W1.cell? ⟨blk ua2, ofs ua2 + n, none⟩ = some (nth us2 n) := by rw [H1.out.2.cell (p := ⟨blk ua2, ofs ua2 + n, none⟩) (HX.out.2.2.2.2.2.2 n hnC).2]; exact (HX.out.2.2.2.2.2.2 n hnC).1
      have hgn : Ints W (nth us2 n) (nth ll (S.cell y c_f)) := by
        have := HX.out.2.2.2.2.1 n hnC
        rwa [show S.cell y c_f = S.vars + n by rw [hn]; unfold Syst.cell; omega]
      have hcall : ∀ m, Calls Try.prog 49 #[nth us2 n, nth us1 c_b] (W1.drewN m) fun e w' => e = .returned (.bool (partB (nth ll (S.cell y c_f)) (nth ll (c_b)))) ∧ Qt (W1.drewN m) w' := fun m => rPart_any _ _ _ _ _ (((hgn).below H1.out.2).qt (Qt.drewN _ _)) (((HX.out.2.2.2.1 c_b hbv).below H1.out.2).qt (Qt.drewN _ _))
      obtain ⟨d, hd⟩ : ∃ d, d = partB (nth ll (S.cell y c_f)) (nth ll (c_b)) := ⟨_, rfl⟩
      rw [← hd] at hcall
      have HCall := Lib.hid (And.intro hcall (And.intro hd hyy))
      clear hcall hd hyy hgn hn hmn hm0 hm1
      cases d
      · go_wp2_with fail
        go_quiet ((go_at_call 49; exact Qt.quiet2 (HCall.out.1 _)))
        go_wp2_with fail
        go_ret
        refine ⟨_, rfl, ⟨fun h => absurd h Bool.false_ne_true, fun h => ?_⟩, by first | exact below_drewN H1.out.2 _ | exact below_drewN (below_drewN H1.out.2 _) _⟩
        rw [holds3] at h
        have h1 := h y (by rw [HCall.out.2.2, ← HL.out.1]; exact nth_mem _ _ hlt)
        have h2 := (part_mem (fun x hx => (HX.out.1 _ (HNF.out y hys) x hx).1)).2 h1
        rw [← HCall.out.2.1] at h2; cases h2
      · go_wp2_with fail
        go_quiet ((go_at_call 49; exact Qt.quiet2 (HCall.out.1 _)))
        go_wp2_with fail
        go_roundw
        case rel => exact ⟨j + 1, by omega, by go_num, (by first | exact Qt.refl _ | exact Qt.drewN _ _ | exact (Qt.drewN _ _).trans (Qt.drewN _ _) | exact ((Qt.drewN _ _).trans (Qt.drewN _ _)).trans (Qt.drewN _ _) | exact Qt.drew _ | exact (Qt.drewN _ _).trans (Qt.drew _)), fun i hi y2 hy2 => by
          by_cases e : i = j
          · subst e
            obtain rfl : y2 = y := by have := HCall.out.2.2; omega
            exact HCall.out.2.1.symm
          · exact hch.out i (by omega) y2 hy2⟩
        case measure => simp [intOf]; omega
    · obtain rfl : j = L.length := by omega
      go_wp2_with fail
      go_ret
      refine ⟨_, rfl, ⟨fun _ => ?_, fun _ => rfl⟩, by first | exact below_drewN H1.out.2 _ | exact below_drewN (below_drewN H1.out.2 _) _⟩
      rw [holds3]
      intro y hy
      rw [← HL.out.1] at hy
      obtain ⟨i, hi, e⟩ := mem_nth hy
      have hys := HX.out.1 c_a (by have := HND.out.1; omega) (y : Int) (by rw [← HL.out.1]; exact hy)
      have hys2 : y < S.sites := by omega
      exact (part_mem (fun x hx => (HX.out.1 _ (HNF.out y hys2) x hx).1)).1 (hch.out i hi y e.symm)

set_option maxHeartbeats 6400000 in
set_option maxRecDepth 100000 in
theorem rHolds4 (S : Syst) (cv : Value) (c : C) (sa : Option Addr) (sc : Nat) (u1 u2 : Value) (a1 a2 : List (List Int)) (W : World) (hu : PtsIn W u1 u2 a1 a2) (hl1 : a1.length = S.vars) (hl2 : a2.length = S.sites * S.fields)
    (hin : ∀ i, i < S.N → ∀ x ∈ nth (a1 ++ a2) i, 0 ≤ x ∧ x < S.sites) (hc : c.Ok S) (hkk : c.k = 4) (hB : S.vars ≤ 40 ∧ S.sites ≤ 12 ∧ S.fields ≤ 5 ∧ S.N ≤ 100) (hset : Ints W (.slice sa c.s.length sc) (c.s.map fun x : Nat => (x : Int))) :
    Calls Try.prog 29 #[.agg #[.int .i64 S.vars, .int .i64 S.sites, .int .i64 S.fields, cv], .agg #[u1, u2], .agg #[.int .i64 c.k, .int .i64 c.a, .int .i64 c.b, .int .i64 c.f, .slice sa c.s.length sc]] W (HoldsR S (fun i x => (x : Int) ∈ nth (a1 ++ a2) i) c W) := by
  obtain ⟨⟨us1, hu1⟩, us2, hu2⟩ := hu
  obtain ⟨ua1, uc1, e1, hm1, hi1, hcl1, hb1⟩ := hu1.1.out1 sInt2
  obtain ⟨ua2, uc2, e2, hm2, hi2, hcl2, hb2⟩ := hu2.1.out1 sInt2
  rw [hu1.2.1, hl1] at e1 hm1 hi1 hcl1 hb1
  rw [hu2.2.1, hl2] at e2 hm2 hi2 hcl2 hb2
  subst e1 e2
  obtain ⟨nC, hnC⟩ : ∃ nC, nC = S.sites * S.fields := ⟨_, rfl⟩
  rw [← hnC] at hm2 hi2 hcl2 hb2 hl2 ⊢
  obtain ⟨bv, bsi, bf, bN⟩ := hB
  have g1 : ∀ i, i < S.vars → Ints W (nth us1 i) (nth (a1 ++ a2) i) := fun i hi => by
    rw [nth_append, if_pos (by omega)]; exact hu1.2.2 i (by omega)
  have g2 : ∀ i, i < nC → Ints W (nth us2 i) (nth (a1 ++ a2) (S.vars + i)) := fun i hi => by
    rw [nth_append, if_neg (by omega), hl1, Nat.add_sub_cancel_left]; exact hu2.2.2 i (by omega)
  have HX := Lib.hid (And.intro hin (And.intro hc (And.intro hset (And.intro g1 (And.intro g2 (And.intro (fun i hi => ⟨hcl1 i hi, hb1 i hi⟩ : ∀ i, i < S.vars → W.cell? ⟨blk ua1, ofs ua1 + i, none⟩ = some (nth us1 i) ∧ blk ua1 < W.heap.size) (fun i hi => ⟨hcl2 i hi, hb2 i hi⟩ : ∀ i, i < nC → W.cell? ⟨blk ua2, ofs ua2 + i, none⟩ = some (nth us2 i) ∧ blk ua2 < W.heap.size)))))))
  generalize a1 ++ a2 = ll at *
  have hck := hc.kind
  have hbv := hc.b
  have hNd : S.N = S.vars + nC := by rw [hnC]; rfl
  have hcl : ∀ y, y < S.sites → c.f < S.fields → y * S.fields + c.f < nC := fun y hy hf => by
    have h1 := Nat.mul_le_mul_right S.fields (Nat.succ_le_of_lt hy)
    rw [Nat.succ_mul] at h1; omega
  have HND := Lib.hid (And.intro hNd hcl)
  clear hin hc hset g1 g2 hcl1 hcl2 hb1 hb2 hu1 hu2 hl1 hl2 hNd hnC hcl
  obtain ⟨ck, c_a, c_b, c_f, c_s⟩ := c
  dsimp only at *
  obtain rfl : ck = 4 := hkk
  have hav : c_a < S.vars := by have h := HX.out.2.1.a; simpa using h
  have hf : c_f < S.fields := HX.out.2.1.f (.inr rfl)
  have hW0 := below3' W (.cells #[.int .i64 (S.vars : Int), .int .i64 S.sites, .int .i64 S.fields, cv] 24) (.cells #[.slice ua1 S.vars uc1, .slice ua2 nC uc2] 29) (.cells #[.int .i64 4, .int .i64 c_a, .int .i64 c_b, .int .i64 c_f, .slice sa c_s.length sc] 39)
  have r0 := (HX.out.2.2.2.2.2.1 c_b hbv).1
  rw [← hW0.cell (p := ⟨blk ua1, ofs ua1 + c_b, none⟩) (HX.out.2.2.2.2.2.1 c_b hbv).2] at r0
  obtain ⟨xa, xc, hxa, hxm, hxi, hxc, hxb⟩ := (HX.out.2.2.2.1 c_b hbv).out1 sInt
  rw [hxa] at r0
  obtain ⟨L, hL⟩ : ∃ L, L = nth ll c_b := ⟨_, rfl⟩
  rw [← hL] at r0 hxm hxi hxc hxb
  have HL := Lib.hid (And.intro hL (And.intro hxc hxb))
  clear hW0 hxa hL hxc hxb
  rw [show ((4 : Nat) : Int) = 4 from rfl]
  go_enter Try.func29, Try.ntmps29
  go_wp2_with fail
  clear r0
  refine wp_gen (fun Z => HBox Z W.heap.size (W.heap.size + 1) (W.heap.size + 2) S (.slice ua1 S.vars uc1) (.slice ua2 nC uc2) 4 c_a c_b c_f (.slice sa c_s.length sc) ∧ Below W.heap.size W Z) ⟨HBox.new W S cv _ _ 4 c_a c_b c_f _ _ _ _, below3' _ _ _ _⟩ ?_
  rintro W1 h1
  obtain ⟨bs, hbs⟩ : ∃ bs, bs = W.heap.size := ⟨_, rfl⟩
  obtain ⟨bp, hbp⟩ : ∃ bp, bp = W.heap.size + 1 := ⟨_, rfl⟩
  obtain ⟨bc, hbc⟩ : ∃ bc, bc = W.heap.size + 2 := ⟨_, rfl⟩
  have H1 : Hid (HBox W1 bs bp bc S (.slice ua1 S.vars uc1) (.slice ua2 nC uc2) 4 c_a c_b c_f (.slice sa c_s.length sc) ∧ Below W.heap.size W W1) := by rw [hbs, hbp, hbc]; exact h1
  rw [← hbc, ← hbp, ← hbs]
  clear h1 hbc hbp hbs
  obtain ⟨f2, p0, p1, ⟨q1, q2, q3, q4, q5⟩⟩ := H1.out.1
  go_loopw [11] (fun x wr => ∃ j : Nat, j ≤ L.length ∧ x = .int .i64 j ∧ Qt W1 wr ∧ Hid (∀ i, i < j → ∀ y : Nat, (y : Int) = nth L i → partB (nth ll (c_a)) (nth ll (S.cell y c_f)) = true)) (fun x _ => L.length - (intOf x).toNat)
  case atStart => exact ⟨0, by omega, rfl, Qt.refl _, fun i hi => by omega⟩
  case round =>
    obtain ⟨j, hj, rfl, ⟨nw, rfl⟩, hch⟩ := hrel
    by_cases hlt : j < L.length
    · have hy := HX.out.1 c_b (by have := HND.out.1; omega) (nth L j) (by rw [← HL.out.1]; exact nth_mem _ _ hlt)
      have hc0 : W1.cell? ⟨blk xa, ofs xa + j, none⟩ = some (.int .i64 (nth L j)) := by rw [H1.out.2.cell (p := ⟨blk xa, ofs xa + j, none⟩) (HL.out.2.2 j hlt)]; exact HL.out.2.1 j hlt
      obtain ⟨y, hyy⟩ : ∃ y : Nat, (y : Int) = nth L j := ⟨(nth L j).toNat, Int.toNat_of_nonneg hy.1⟩
      rw [← hyy] at hc0 hy
      have hys : y < S.sites := by omega
      obtain ⟨n, hn⟩ : ∃ n, n = y * S.fields + c_f := ⟨_, rfl⟩
      have hnC : n < nC := by rw [hn]; exact HND.out.2 y hys hf
      have hmn : (y : Int) * (S.fields : Int) + (c_f : Int) = (n : Int) := by rw [hn]; simp
      have hm0 : 0 ≤ (y : Int) * (S.fields : Int) := Int.mul_nonneg (by omega) (by omega)
      have hm1 : (n : Int) ≤ 100 := by have := HND.out.1; omega
      have hix : ∀ Z, (Instr.indexAt 27 (.slice ua2 nC uc2) (.int .i64 ((y : Int) * (S.fields : Int) + (c_f : Int)))).run Try.prog Z = .ok (.pointer (some ⟨blk ua2, ofs ua2 + n, none⟩)) Z := fun Z => by
        have := hi2 .i64 ((y : Int) * (S.fields : Int) + (c_f : Int)) (by omega) (by omega) Z
        rw [this, hmn, Int.toNat_natCast]
      have hw1 : IntKind.i64.wrap ((y : Int) * (S.fields : Int)) = (y : Int) * (S.fields : Int) := IntWalk.i64_in _ (by omega)
      have hw2 : IntKind.i64.wrap ((y : Int) * (S.fields : Int) + (c_f : Int)) = (y : Int) * (S.fields : Int) + (c_f : Int) := IntWalk.i64_in _ (by omega)
      have r1 : W1.cell? ⟨blk ua1, ofs ua1 + c_a, none⟩ = some (nth us1 c_a) := by rw [H1.out.2.cell (p := ⟨blk ua1, ofs ua1 + c_a, none⟩) (HX.out.2.2.2.2.2.1 c_a hav).2]; exact (HX.out.2.2.2.2.2.1 c_a hav).1
      have r2 : W1.cell? ⟨blk ua2, ofs ua2 + n, none⟩ = some (nth us2 n) := by rw [H1.out.2.cell (p := ⟨blk ua2, ofs ua2 + n, none⟩) (HX.out.2.2.2.2.2.2 n hnC).2]; exact (HX.out.2.2.2.2.2.2 n hnC).1
      have hgn : Ints W (nth us2 n) (nth ll (S.cell y c_f)) := by
        have := HX.out.2.2.2.2.1 n hnC
        rwa [show S.cell y c_f = S.vars + n by rw [hn]; unfold Syst.cell; omega]
      have hcall : ∀ m, Calls Try.prog 49 #[nth us1 c_a, nth us2 n] (W1.drewN m) fun e w' => e = .returned (.bool (partB (nth ll (c_a)) (nth ll (S.cell y c_f)))) ∧ Qt (W1.drewN m) w' := fun m => rPart_any _ _ _ _ _ (((HX.out.2.2.2.1 c_a hav).below H1.out.2).qt (Qt.drewN _ _)) (((hgn).below H1.out.2).qt (Qt.drewN _ _))
      obtain ⟨d, hd⟩ : ∃ d, d = partB (nth ll (c_a)) (nth ll (S.cell y c_f)) := ⟨_, rfl⟩
      rw [← hd] at hcall
      have HCall := Lib.hid (And.intro hcall (And.intro hd hyy))
      clear hcall hd hyy hgn hn hmn hm0 hm1
      cases d
      · go_wp2_with fail
        go_quiet ((go_at_call 49; exact Qt.quiet2 (HCall.out.1 _)))
        go_wp2_with fail
        go_ret
        refine ⟨_, rfl, ⟨fun h => absurd h Bool.false_ne_true, fun h => ?_⟩, by first | exact below_drewN H1.out.2 _ | exact below_drewN (below_drewN H1.out.2 _) _⟩
        rw [holds4] at h
        have h1 := h y (by rw [HCall.out.2.2, ← HL.out.1]; exact nth_mem _ _ hlt)
        have h2 := (part_mem (fun x hx => (HX.out.1 c_a (by have := HND.out.1; omega) x hx).1)).2 h1
        rw [← HCall.out.2.1] at h2; cases h2
      · go_wp2_with fail
        go_quiet ((go_at_call 49; exact Qt.quiet2 (HCall.out.1 _)))
        go_wp2_with fail
        go_roundw
        case rel => exact ⟨j + 1, by omega, by go_num, (by first | exact Qt.refl _ | exact Qt.drewN _ _ | exact (Qt.drewN _ _).trans (Qt.drewN _ _) | exact ((Qt.drewN _ _).trans (Qt.drewN _ _)).trans (Qt.drewN _ _) | exact Qt.drew _ | exact (Qt.drewN _ _).trans (Qt.drew _)), fun i hi y2 hy2 => by
          by_cases e : i = j
          · subst e
            obtain rfl : y2 = y := by have := HCall.out.2.2; omega
            exact HCall.out.2.1.symm
          · exact hch.out i (by omega) y2 hy2⟩
        case measure => simp [intOf]; omega
    · obtain rfl : j = L.length := by omega
      go_wp2_with fail
      go_ret
      refine ⟨_, rfl, ⟨fun _ => ?_, fun _ => rfl⟩, by first | exact below_drewN H1.out.2 _ | exact below_drewN (below_drewN H1.out.2 _) _⟩
      rw [holds4]
      intro y hy
      rw [← HL.out.1] at hy
      obtain ⟨i, hi, e⟩ := mem_nth hy
      have hys := HX.out.1 c_b (by have := HND.out.1; omega) (y : Int) (by rw [← HL.out.1]; exact hy)
      have hys2 : y < S.sites := by omega
      exact (part_mem (fun x hx => (HX.out.1 c_a (by have := HND.out.1; omega) x hx).1)).1 (hch.out i hi y e.symm)

set_option maxHeartbeats 6400000 in
set_option maxRecDepth 100000 in
theorem rHolds5 (S : Syst) (cv : Value) (c : C) (sa : Option Addr) (sc : Nat) (u1 u2 : Value) (a1 a2 : List (List Int)) (W : World) (hu : PtsIn W u1 u2 a1 a2) (hl1 : a1.length = S.vars) (hl2 : a2.length = S.sites * S.fields)
    (hin : ∀ i, i < S.N → ∀ x ∈ nth (a1 ++ a2) i, 0 ≤ x ∧ x < S.sites) (hc : c.Ok S) (hkk : c.k = 5) (hB : S.vars ≤ 40 ∧ S.sites ≤ 12 ∧ S.fields ≤ 5 ∧ S.N ≤ 100) (hset : Ints W (.slice sa c.s.length sc) (c.s.map fun x : Nat => (x : Int))) :
    Calls Try.prog 29 #[.agg #[.int .i64 S.vars, .int .i64 S.sites, .int .i64 S.fields, cv], .agg #[u1, u2], .agg #[.int .i64 c.k, .int .i64 c.a, .int .i64 c.b, .int .i64 c.f, .slice sa c.s.length sc]] W (HoldsR S (fun i x => (x : Int) ∈ nth (a1 ++ a2) i) c W) := by
  obtain ⟨⟨us1, hu1⟩, us2, hu2⟩ := hu
  obtain ⟨ua1, uc1, e1, hm1, hi1, hcl1, hb1⟩ := hu1.1.out1 sInt2
  obtain ⟨ua2, uc2, e2, hm2, hi2, hcl2, hb2⟩ := hu2.1.out1 sInt2
  rw [hu1.2.1, hl1] at e1 hm1 hi1 hcl1 hb1
  rw [hu2.2.1, hl2] at e2 hm2 hi2 hcl2 hb2
  subst e1 e2
  obtain ⟨nC, hnC⟩ : ∃ nC, nC = S.sites * S.fields := ⟨_, rfl⟩
  rw [← hnC] at hm2 hi2 hcl2 hb2 hl2 ⊢
  obtain ⟨bv, bsi, bf, bN⟩ := hB
  have g1 : ∀ i, i < S.vars → Ints W (nth us1 i) (nth (a1 ++ a2) i) := fun i hi => by
    rw [nth_append, if_pos (by omega)]; exact hu1.2.2 i (by omega)
  have g2 : ∀ i, i < nC → Ints W (nth us2 i) (nth (a1 ++ a2) (S.vars + i)) := fun i hi => by
    rw [nth_append, if_neg (by omega), hl1, Nat.add_sub_cancel_left]; exact hu2.2.2 i (by omega)
  have HX := Lib.hid (And.intro hin (And.intro hc (And.intro hset (And.intro g1 (And.intro g2 (And.intro (fun i hi => ⟨hcl1 i hi, hb1 i hi⟩ : ∀ i, i < S.vars → W.cell? ⟨blk ua1, ofs ua1 + i, none⟩ = some (nth us1 i) ∧ blk ua1 < W.heap.size) (fun i hi => ⟨hcl2 i hi, hb2 i hi⟩ : ∀ i, i < nC → W.cell? ⟨blk ua2, ofs ua2 + i, none⟩ = some (nth us2 i) ∧ blk ua2 < W.heap.size)))))))
  generalize a1 ++ a2 = ll at *
  have hck := hc.kind
  have hbv := hc.b
  have hNd : S.N = S.vars + nC := by rw [hnC]; rfl
  have hcl : ∀ y, y < S.sites → c.f < S.fields → y * S.fields + c.f < nC := fun y hy hf => by
    have h1 := Nat.mul_le_mul_right S.fields (Nat.succ_le_of_lt hy)
    rw [Nat.succ_mul] at h1; omega
  have HND := Lib.hid (And.intro hNd hcl)
  clear hin hc hset g1 g2 hcl1 hcl2 hb1 hb2 hu1 hu2 hl1 hl2 hNd hnC hcl
  obtain ⟨ck, c_a, c_b, c_f, c_s⟩ := c
  dsimp only at *
  obtain rfl : ck = 5 := hkk
  have hav : c_a < S.vars := by have h := HX.out.2.1.a; simpa using h
  obtain ⟨xa, xc, hxa, hxm, hxi, hxc, hxb⟩ := HX.out.2.2.1.out1 sInt
  simp only [Value.slice.injEq, List.length_map] at hxa
  obtain ⟨rfl, -, rfl⟩ := hxa
  simp only [List.length_map] at hxm hxi hxc hxb
  have HL := Lib.hid (And.intro hxc hxb)
  clear hxc hxb
  rw [show ((5 : Nat) : Int) = 5 from rfl]
  go_enter Try.func29, Try.ntmps29
  go_wp2_with fail
  refine wp_gen (fun Z => HBox Z W.heap.size (W.heap.size + 1) (W.heap.size + 2) S (.slice ua1 S.vars uc1) (.slice ua2 nC uc2) 5 c_a c_b c_f (.slice sa c_s.length sc) ∧ Below W.heap.size W Z) ⟨HBox.new W S cv _ _ 5 c_a c_b c_f _ _ _ _, below3' _ _ _ _⟩ ?_
  rintro W1 h1
  obtain ⟨bs, hbs⟩ : ∃ bs, bs = W.heap.size := ⟨_, rfl⟩
  obtain ⟨bp, hbp⟩ : ∃ bp, bp = W.heap.size + 1 := ⟨_, rfl⟩
  obtain ⟨bc, hbc⟩ : ∃ bc, bc = W.heap.size + 2 := ⟨_, rfl⟩
  have H1 : Hid (HBox W1 bs bp bc S (.slice ua1 S.vars uc1) (.slice ua2 nC uc2) 5 c_a c_b c_f (.slice sa c_s.length sc) ∧ Below W.heap.size W W1) := by rw [hbs, hbp, hbc]; exact h1
  rw [← hbc, ← hbp, ← hbs]
  clear h1 hbc hbp hbs
  obtain ⟨f2, p0, p1, ⟨q1, q2, q3, q4, q5⟩⟩ := H1.out.1
  go_loopw [7] (fun x wr => ∃ j : Nat, j ≤ c_s.length ∧ x = .int .i64 j ∧ Qt W1 wr ∧ Hid (∀ i, i < j → ((nth c_s i : Nat) : Int) ∈ nth ll c_a → ((nth c_s i : Nat) : Int) ∈ nth ll c_b)) (fun x _ => c_s.length - (intOf x).toNat)
  case atStart => exact ⟨0, by omega, rfl, Qt.refl _, fun i hi => by omega⟩
  case round =>
    obtain ⟨j, hj, rfl, ⟨nw, rfl⟩, hch⟩ := hrel
    by_cases hlt : j < c_s.length
    · have hc0 : W1.cell? ⟨blk sa, ofs sa + j, none⟩ = some (.int .i64 ((nth c_s j : Nat) : Int)) := by
        rw [H1.out.2.cell (p := ⟨blk sa, ofs sa + j, none⟩) (HL.out.2 j hlt), HL.out.1 j hlt, nth_map' _ _ _ hlt]
      obtain ⟨y, hyy⟩ : ∃ y, y = nth c_s j := ⟨_, rfl⟩
      rw [← hyy] at hc0
      have r1 : W1.cell? ⟨blk ua1, ofs ua1 + c_b, none⟩ = some (nth us1 c_b) := by rw [H1.out.2.cell (p := ⟨blk ua1, ofs ua1 + c_b, none⟩) (HX.out.2.2.2.2.2.1 c_b hbv).2]; exact (HX.out.2.2.2.2.2.1 c_b hbv).1
      have r2 : W1.cell? ⟨blk ua1, ofs ua1 + c_a, none⟩ = some (nth us1 c_a) := by rw [H1.out.2.cell (p := ⟨blk ua1, ofs ua1 + c_a, none⟩) (HX.out.2.2.2.2.2.1 c_a hav).2]; exact (HX.out.2.2.2.2.2.1 c_a hav).1
      have hcall1 : ∀ n, Calls Try.prog 48 #[nth us1 c_a, .int .i64 (y : Int)] (W1.drewN n) fun e w' => e = .returned (.bool ((nth ll c_a).contains (y : Int))) ∧ Qt (W1.drewN n) w' := fun n => rHas_any _ _ _ _ (((HX.out.2.2.2.1 c_a hav).below H1.out.2).qt (Qt.drewN _ _))
      have hcall2 : ∀ n, Calls Try.prog 48 #[nth us1 c_b, .int .i64 (y : Int)] (W1.drewN n) fun e w' => e = .returned (.bool ((nth ll c_b).contains (y : Int))) ∧ Qt (W1.drewN n) w' := fun n => rHas_any _ _ _ _ (((HX.out.2.2.2.1 c_b hbv).below H1.out.2).qt (Qt.drewN _ _))
      obtain ⟨d1, hd1⟩ : ∃ d, d = (nth ll c_a).contains (y : Int) := ⟨_, rfl⟩
      obtain ⟨d2, hd2⟩ : ∃ d, d = (nth ll c_b).contains (y : Int) := ⟨_, rfl⟩
      obtain ⟨va, hva⟩ : ∃ v, v = nth us1 c_a := ⟨_, rfl⟩
      obtain ⟨vb, hvb⟩ : ∃ v, v = nth us1 c_b := ⟨_, rfl⟩
      rw [← hd1, ← hva] at hcall1
      rw [← hd2, ← hvb] at hcall2
      rw [← hvb] at r1
      rw [← hva] at r2
      have HCall := Lib.hid (And.intro hcall1 (And.intro hcall2 (And.intro hd1 (And.intro hd2 hyy))))
      clear hcall1 hcall2 hd1 hd2 hyy hva hvb
      cases d1
      · go_wp2_with fail
        go_quiet ((go_at_call 48; exact Qt.quiet2 (HCall.out.1 _)))
        go_wp2_with fail
        go_roundw
        case rel => exact ⟨j + 1, by omega, by go_num, (by first | exact Qt.refl _ | exact Qt.drewN _ _ | exact (Qt.drewN _ _).trans (Qt.drewN _ _) | exact ((Qt.drewN _ _).trans (Qt.drewN _ _)).trans (Qt.drewN _ _) | exact Qt.drew _ | exact (Qt.drewN _ _).trans (Qt.drew _)), fun i hi hm => by
          by_cases e : i = j
          · subst e
            rw [← HCall.out.2.2.2.2, ← List.contains_iff_mem, ← HCall.out.2.2.1] at hm; cases hm
          · exact hch.out i (by omega) hm⟩
        case measure => simp [intOf]; omega
      · cases d2
        · go_wp2_with fail
          go_quiet ((first | (go_at_call 48; with_reducible exact Qt.quiet2 (HCall.out.1 _)) | (go_at_call 48; with_reducible exact Qt.quiet2 (HCall.out.2.1 _))))
          go_wp2_with fail
          go_ret
          refine ⟨_, rfl, ⟨fun h => absurd h Bool.false_ne_true, fun h => ?_⟩, by first | exact below_drewN H1.out.2 _ | exact below_drewN (below_drewN H1.out.2 _) _⟩
          rw [holds5] at h
          have h1 := h y (List.contains_iff_mem.1 HCall.out.2.2.1.symm) (by rw [HCall.out.2.2.2.2]; exact nth_mem _ _ hlt)
          rw [← List.contains_iff_mem, ← HCall.out.2.2.2.1] at h1; cases h1
        · go_wp2_with fail
          go_quiet ((first | (go_at_call 48; with_reducible exact Qt.quiet2 (HCall.out.1 _)) | (go_at_call 48; with_reducible exact Qt.quiet2 (HCall.out.2.1 _))))
          go_wp2_with fail
          go_roundw
          case rel => exact ⟨j + 1, by omega, by go_num, (by first | exact Qt.refl _ | exact Qt.drewN _ _ | exact (Qt.drewN _ _).trans (Qt.drewN _ _) | exact ((Qt.drewN _ _).trans (Qt.drewN _ _)).trans (Qt.drewN _ _) | exact Qt.drew _ | exact (Qt.drewN _ _).trans (Qt.drew _)), fun i hi hm => by
            by_cases e : i = j
            · subst e
              rw [← HCall.out.2.2.2.2]; exact List.contains_iff_mem.1 HCall.out.2.2.2.1.symm
            · exact hch.out i (by omega) hm⟩
          case measure => simp [intOf]; omega
    · obtain rfl : j = c_s.length := by omega
      go_wp2_with fail
      go_ret
      refine ⟨_, rfl, ⟨fun _ => ?_, fun _ => rfl⟩, by first | exact below_drewN H1.out.2 _ | exact below_drewN (below_drewN H1.out.2 _) _⟩
      rw [holds5]
      intro x hx hm
      obtain ⟨i, hi, rfl⟩ := mem_nth hm
      exact hch.out i hi hx

theorem rHolds_any (S : Syst) (cv : Value) (c : C) (sa : Option Addr) (sc : Nat) (u1 u2 : Value) (a1 a2 : List (List Int)) (W : World) (hu : PtsIn W u1 u2 a1 a2) (hl1 : a1.length = S.vars) (hl2 : a2.length = S.sites * S.fields)
    (hin : ∀ i, i < S.N → ∀ x ∈ nth (a1 ++ a2) i, 0 ≤ x ∧ x < S.sites) (hc : c.Ok S) (hB : S.vars ≤ 40 ∧ S.sites ≤ 12 ∧ S.fields ≤ 5 ∧ S.N ≤ 100) (hset : Ints W (.slice sa c.s.length sc) (c.s.map fun x : Nat => (x : Int))) :
    Calls Try.prog 29 #[.agg #[.int .i64 S.vars, .int .i64 S.sites, .int .i64 S.fields, cv], .agg #[u1, u2], .agg #[.int .i64 c.k, .int .i64 c.a, .int .i64 c.b, .int .i64 c.f, .slice sa c.s.length sc]] W (HoldsR S (fun i x => (x : Int) ∈ nth (a1 ++ a2) i) c W) := by
  have hck := hc.kind
  have hk5 : c.k = 1 ∨ c.k = 2 ∨ c.k = 3 ∨ c.k = 4 ∨ c.k = 5 := by omega
  rcases hk5 with h | h | h | h | h
  · exact rHolds1 S cv c sa sc u1 u2 a1 a2 W hu hl1 hl2 hin hc h hB hset
  · exact rHolds2 S cv c sa sc u1 u2 a1 a2 W hu hl1 hl2 hin hc h hB hset
  · exact rHolds3 S cv c sa sc u1 u2 a1 a2 W hu hl1 hl2 hin hc h hB hset
  · exact rHolds4 S cv c sa sc u1 u2 a1 a2 W hu hl1 hl2 hin hc h hB hset
  · exact rHolds5 S cv c sa sc u1 u2 a1 a2 W hu hl1 hl2 hin hc h hB hset
end Go.Proofs.Ytdlfbkmjemamhaa
