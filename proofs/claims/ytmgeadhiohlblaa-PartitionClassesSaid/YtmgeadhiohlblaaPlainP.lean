/- Plain laws of partitions: the list that Of returns is valid, the finest one, and does not hang on the order. -/
import Derived.Test.YtmgeadhiohlblaaPartG
namespace Go.Proofs.Ytmgeadhiohlblaa
open Go.RowKit Go.Dfl

/-- A valid partition. -/
structure VP (n : Nat) (P : List Int) : Prop where
  len : P.length = n
  rng : ∀ i, i < n → 0 ≤ nth P i ∧ nth P i ≤ i
  idem : ∀ i, i < n → nth P (nth P i).toNat = nth P i

theorem VP.chk {n : Nat} {P : List Int} (h : VP n P) (hn : n ≤ 8192) : chk P = 0 :=
  chk_mk (by rw [h.len]; exact hn) fun i hi => ⟨(h.rng i (by rw [← h.len]; exact hi)).1, (h.rng i (by rw [← h.len]; exact hi)).2, h.idem i (by rw [← h.len]; exact hi)⟩
theorem VP.of_chk {P : List Int} (h : Go.Proofs.Ytmgeadhiohlblaa.chk P = 0) : VP P.length P := by
  obtain ⟨_, h2⟩ := chk_ok h
  exact ⟨rfl, fun i hi => ⟨(h2 i hi).1, (h2 i hi).2.1⟩, fun i hi => (h2 i hi).2.2⟩

theorem VP.upto (n : Nat) : VP n (upto n) := by
  refine ⟨upto_len n, fun i hi => ?_, fun i hi => ?_⟩
  · rw [upto_nth _ _ hi]; omega
  · rw [upto_nth _ _ hi]; simp [upto_nth _ _ hi]

theorem VP.join {n : Nat} {P : List Int} (h : VP n P) (x y : Nat) (hx : x < n) (hy : y < n) : VP n (joinOf P x y) := by
  unfold joinOf
  simp only [Int.toNat_natCast]
  have hl := h.len
  have rx := h.rng x hx
  have ry := h.rng y hy
  have m1 := mn_le (nth P x) (nth P y)
  have m2 := mx_ge (nth P x) (nth P y)
  have hA : nth P (mn (nth P x) (nth P y)).toNat = mn (nth P x) (nth P y) := by
    rcases m1.2.2 with e | e <;> rw [e]
    · exact h.idem x hx
    · exact h.idem y hy
  generalize mn (nth P x) (nth P y) = A at *
  generalize mx (nth P x) (nth P y) = B at *
  refine ⟨by rw [joinL_len, hl], fun i hi => ?_, fun i hi => ?_⟩
  · have := h.rng i hi
    rw [joinL_nth _ _ _ _ (by omega)]; split <;> omega
  · have r := h.rng i hi
    have r2 := h.idem i hi
    rw [joinL_nth _ _ _ _ (by omega : i < P.length)]
    by_cases e : nth P i = B
    · rw [if_pos e, joinL_nth _ _ _ _ (by omega), hA]; split <;> rfl
    · rw [if_neg e, joinL_nth _ _ _ _ (by omega), r2, if_neg e]

theorem join_same {n : Nat} {P : List Int} (h : VP n P) (x y : Nat) (hx : x < n) (hy : y < n) : nth (joinOf P x y) x = nth (joinOf P x y) y := by
  unfold joinOf
  simp only [Int.toNat_natCast]
  have hl := h.len
  have m1 := mn_le (nth P x) (nth P y)
  have m2 := mx_ge (nth P x) (nth P y)
  rw [joinL_nth _ _ _ _ (by omega), joinL_nth _ _ _ _ (by omega)]
  split <;> split <;> omega
theorem join_keeps {n : Nat} {P : List Int} (h : VP n P) (x y : Int) (i j : Nat) (hi : i < n) (hj : j < n) (e : nth P i = nth P j) : nth (joinOf P x y) i = nth (joinOf P x y) j := by
  have hl := h.len
  unfold joinOf
  rw [joinL_nth _ _ _ _ (by omega), joinL_nth _ _ _ _ (by omega), e]
theorem join_finest {n : Nat} {P q : List Int} (h : VP n P) (hq : ∀ i, i < n → nth q (nth P i).toNat = nth q i) (x y : Nat) (hx : x < n) (hy : y < n) (e : nth q x = nth q y) :
    ∀ i, i < n → nth q (nth (joinOf P x y) i).toNat = nth q i := by
  intro i hi
  have hl := h.len
  unfold joinOf
  simp only [Int.toNat_natCast]
  rw [joinL_nth _ _ _ _ (by omega)]
  have m1 := mn_le (nth P x) (nth P y)
  have m2 := mx_ge (nth P x) (nth P y)
  have qx := hq x hx
  have qy := hq y hy
  split
  · rename_i h1
    have : nth q (mn (nth P x) (nth P y)).toNat = nth q x := by
      rcases m1.2.2 with e1 | e1 <;> rw [e1]
      · exact qx
      · rw [qy, e]
    rw [this, ← hq i hi, h1]
    rcases m2.2.2 with e1 | e1 <;> rw [e1]
    · exact qx.symm
    · rw [qy, e]
  · exact hq i hi

theorem ofL_cons_ind {n : Nat} (C : List Int → Prop) : ∀ (pairs : List (Int × Int)) (P : List Int), C P → (∀ P d, d ∈ pairs → C P → C (ofStep P d)) → C (pairs.foldl ofStep P)
  | [], P, h, _ => h
  | d :: r, P, h, hs => ofL_cons_ind (n := n) C r (ofStep P d) (hs P d (by simp) h) fun P d' hd' => hs P d' (by simp [hd'])

theorem ok_nat {n : Nat} {d : Int × Int} (h : okB n d = true) : ∃ x y : Nat, d = ((x : Int), (y : Int)) ∧ x < n ∧ y < n := by
  obtain ⟨a, b⟩ := d
  simp only [okB, Bool.and_eq_true, memB_iff] at h
  exact ⟨a.toNat, b.toNat, by simp; omega, by omega, by omega⟩

theorem ofL_vp {n : Nat} {pairs : List (Int × Int)} (h : pairs.all (okB n) = true) : VP n (ofL n pairs) := by
  refine ofL_cons_ind (n := n) (VP n) pairs _ (VP.upto n) fun P d hd hP => ?_
  obtain ⟨x, y, rfl, hx, hy⟩ := ok_nat (List.all_eq_true.1 h d hd)
  exact hP.join x y hx hy

theorem ofL_finest {n : Nat} {pairs : List (Int × Int)} (q : List Int) (h : pairs.all (okB n) = true) (hq : ∀ d ∈ pairs, nth q d.1.toNat = nth q d.2.toNat) :
    ∀ i, i < n → nth q (nth (ofL n pairs) i).toNat = nth q i := by
  refine (ofL_cons_ind (n := n) (fun P => VP n P ∧ ∀ i, i < n → nth q (nth P i).toNat = nth q i) pairs _ ⟨VP.upto n, fun i hi => by rw [upto_nth _ _ hi]; simp⟩ fun P d hd hP => ?_).2
  obtain ⟨x, y, rfl, hx, hy⟩ := ok_nat (List.all_eq_true.1 h d hd)
  exact ⟨hP.1.join x y hx hy, join_finest hP.1 hP.2 x y hx hy (by simpa using hq _ hd)⟩

theorem foldl_keeps {n : Nat} : ∀ (pairs : List (Int × Int)) (P : List Int), VP n P → pairs.all (okB n) = true → ∀ i j, i < n → j < n → nth P i = nth P j → nth (pairs.foldl ofStep P) i = nth (pairs.foldl ofStep P) j
  | [], _, _, _, _, _, _, _, e => e
  | d :: r, P, hP, hok, i, j, hi, hj, e => by
    simp only [List.all_cons, Bool.and_eq_true] at hok
    obtain ⟨x, y, rfl, hx, hy⟩ := ok_nat hok.1
    exact foldl_keeps r _ (hP.join x y hx hy) hok.2 i j hi hj (join_keeps hP _ _ i j hi hj e)

theorem ofL_same {n : Nat} {pairs : List (Int × Int)} (h : pairs.all (okB n) = true) : ∀ d ∈ pairs, nth (ofL n pairs) d.1.toNat = nth (ofL n pairs) d.2.toNat := by
  intro d hd
  obtain ⟨l1, l2, rfl⟩ := List.append_of_mem hd
  simp only [List.all_append, List.all_cons, Bool.and_eq_true] at h
  obtain ⟨x, y, rfl, hx, hy⟩ := ok_nat h.2.1
  unfold ofL
  rw [List.foldl_append, List.foldl_cons]
  have h1 : VP n (l1.foldl ofStep (upto n)) := ofL_vp h.1
  exact foldl_keeps l2 _ (h1.join x y hx hy) h.2.2 _ _ (by simpa using hx) (by simpa using hy) (by simpa [ofStep] using join_same h1 x y hx hy)

theorem VP.ext {n : Nat} {P Q : List Int} (hP : VP n P) (hQ : VP n Q) (h1 : ∀ i, i < n → nth Q (nth P i).toNat = nth Q i) (h2 : ∀ i, i < n → nth P (nth Q i).toNat = nth P i) : P = Q := by
  refine nth_ext (by rw [hP.len, hQ.len]) fun i hi => ?_
  rw [hP.len] at hi
  have a := hP.rng i hi
  have b := hQ.rng i hi
  have c := hQ.rng (nth P i).toNat (by omega)
  have d := hP.rng (nth Q i).toNat (by omega)
  rw [h1 i hi] at c
  rw [h2 i hi] at d
  omega

theorem finerFrom_iff (a b : List Int) : ∀ (d k : Nat), finerFrom a b d k = true ↔ ∀ i, k ≤ i → i < k + d → nth b i = nth b (nth a i).toNat
  | 0, k => by simp [finerFrom]; intro i h1 h2; omega
  | d+1, k => by
    rw [finerFrom]
    by_cases h : nth b k = nth b (nth a k).toNat
    · rw [if_neg (by simpa using h), finerFrom_iff a b d (k+1)]
      constructor
      · intro g i h1 h2
        by_cases e : i = k
        · subst e; exact h
        · exact g i (by omega) (by omega)
      · intro g i h1 h2; exact g i (by omega) (by omega)
    · rw [if_pos (by simpa using h)]
      simp
      exact ⟨k, by omega, by omega, h⟩

theorem finerB_iff (a b : List Int) : finerB a b = true ↔ chk a = 0 ∧ chk b = 0 ∧ a.length = b.length ∧ ∀ i, i < a.length → nth b i = nth b (nth a i).toNat := by
  simp only [finerB, Bool.and_eq_true, beq_iff_eq, finerFrom_iff]
  constructor
  · rintro ⟨⟨⟨h1, h2⟩, h3⟩, h4⟩; exact ⟨h1, h2, h3, fun i hi => h4 i (by omega) (by omega)⟩
  · rintro ⟨h1, h2, h3, h4⟩; exact ⟨⟨⟨h1, h2⟩, h3⟩, fun i _ hi => h4 i (by omega)⟩

/-- The pairs in the opposite order with exchanged ends. -/
def backP (pairs : List (Int × Int)) : List (Int × Int) := (pairs.map fun d => (d.2, d.1)).reverse
theorem ofL_back {n : Nat} {pairs : List (Int × Int)} (h : pairs.all (okB n) = true) (h' : (backP pairs).all (okB n) = true) : ofL n (backP pairs) = ofL n pairs := by
  refine VP.ext (ofL_vp h') (ofL_vp h) (ofL_finest _ h' ?_) (ofL_finest _ h ?_)
  · intro d hd
    simp [backP] at hd
    obtain ⟨a, b, hm, rfl⟩ := hd
    exact (ofL_same h _ hm).symm
  · intro d hd
    exact (ofL_same h' (d.2, d.1) (by simp only [backP, List.mem_reverse, List.mem_map]; exact ⟨d, hd, rfl⟩)).symm
theorem back_ok {n : Nat} {pairs : List (Int × Int)} : (backP pairs).all (okB n) = pairs.all (okB n) := by
  rw [Bool.eq_iff_iff, List.all_eq_true, List.all_eq_true]
  simp only [backP, List.mem_reverse, List.mem_map, okB, Bool.and_eq_true]
  constructor
  · intro g d hd; exact (g (d.2, d.1) ⟨d, hd, rfl⟩).symm
  · rintro g _ ⟨d, hd, rfl⟩; exact (g d hd).symm

end Go.Proofs.Ytmgeadhiohlblaa
