/- Contracts of Join and of the reference's join. -/
import Derived.Test.YtmgeadhiohlblaaPartC
namespace Go.Proofs.Ytmgeadhiohlblaa
open Go.RowKit Go.Dfl

def joinL (l : List Int) (a b : Int) : List Int := l.map fun z => if z = b then a else z
theorem joinL_len (l : List Int) (a b : Int) : (joinL l a b).length = l.length := by simp [joinL]
theorem joinL_nth (l : List Int) (a b : Int) (i : Nat) (h : i < l.length) : nth (joinL l a b) i = if nth l i = b then a else nth l i := by
  simp [joinL, nth, h]

def SlicePost (L : List Int) (w : World) (e : Ending) (w' : World) : Prop := ∃ v, e = .returned v ∧ OwnI w' w.heap.size 3 v L ∧ Below w.heap.size w w'

set_option maxHeartbeats 400000 in
theorem Rjoin_any (v : Value) (l : List Int) (x y : Nat) (w : World) (h : Ints w v l) (hx : x < l.length) (hy : y < l.length) (hl : l.length ≤ 8192) :
    Calls Try.prog 27 #[v, .int .i64 x, .int .i64 y] w (SlicePost (joinL l (mn (nth l x) (nth l y)) (mx (nth l x) (nth l y))) w) := by
  obtain ⟨a, cap, rfl, hm, hidx, hcell, hblk⟩ := h.out1 sInt
  have hcx := hcell x hx
  have hcy := hcell y hy
  have hmn := run_mn Try.prog
  have hmx := run_mx Try.prog
  go_enter Try.func27, Try.ntmps27
  go_wp2
  go_quiet (fail)
  go_wp2
  generalize hA : mn (nth l x) (nth l y) = A
  generalize hB : mx (nth l x) (nth l y) = B
  have HA := Lib.hid hA
  have HB0 := Lib.hid hB
  clear hmn hmx hcx hcy hA hB
  go_loopw [9, 10] (fun v i wr => ∃ k : Nat, k ≤ l.length ∧ i = .int .i64 k ∧ Below w.heap.size w wr ∧ OwnI wr w.heap.size 3 v (joinL (l.take k) A B)) (fun _ i _ => l.length - (intOf i).toNat)
  case atStart => exact ⟨0, by omega, rfl, (Qt.drewN _ _).below _, Own.nil _ _ _ _⟩
  case round =>
    obtain ⟨k, hk, rfl, hbw, ho⟩ := hrel
    by_cases hlt : k < l.length
    · have hsz := hbw.size
      have hck : wr.cell? ⟨blk a, ofs a + k, none⟩ = some (.int .i64 (nth l k)) := by
        rw [hbw.cell (p := ⟨blk a, ofs a + k, none⟩) (hblk k hlt)]; exact hcell k hlt
      have Hu := Lib.hid (take_snoc l k hlt)
      have hln : (joinL (l.take k) A B).length < 17592186044416 := by simp [joinL]; omega
      clear hcell
      by_cases hB : nth l k = B
      · have hB' : (nth l k == B) = true := by simpa using hB
        have HB := Lib.hid hB
        clear hB
        go_wp2_with (at_builtin; refine wp_append1 (f := Value.int .i64) sInt rfl _ rfl _ _ rfl w.heap.size _ (joinL (l.take k) A B) rfl (ho.alloc _) A ⟨wr.heap.size, 0, none⟩ rfl (by simp [go_sem]) rfl hln (by omega) (by simp; omega) ?_; intro v' w2 hown hgr hb2)
        go_roundw
        case rel => exact ⟨k + 1, by omega, by go_num, (hbw.alloc hsz _).trans hb2, by rw [Hu.out]; simpa [joinL, HB.out] using hown⟩
        case measure => simp [intOf]; omega
      · have hB' : (nth l k == B) = false := by simpa using hB
        have HB := Lib.hid hB
        clear hB
        go_wp2_with (at_builtin; refine wp_append1 (f := Value.int .i64) sInt rfl _ rfl _ _ rfl w.heap.size _ (joinL (l.take k) A B) rfl (ho.alloc _) (nth l k) ⟨wr.heap.size, 0, none⟩ rfl (by simp [go_sem]) rfl hln (by omega) (by simp; omega) ?_; intro v' w2 hown hgr hb2)
        go_roundw
        case rel => exact ⟨k + 1, by omega, by go_num, (hbw.alloc hsz _).trans hb2, by rw [Hu.out]; simpa [joinL, HB.out] using hown⟩
        case measure => simp [intOf]; omega
    · have ek : l.take k = l := List.take_of_length_le (by omega)
      rw [ek] at ho
      clear ek
      go_wp2
      go_ret
      exact ⟨_, rfl, by rw [HA.out, HB0.out]; exact ho, hbw⟩

def joinOf (l : List Int) (x y : Int) : List Int := joinL l (mn (nth l x.toNat) (nth l y.toNat)) (mx (nth l x.toNat) (nth l y.toNat))

/-- What Join returns: the error first, then the row. -/
def JoinPost (l : List Int) (x y : Int) (w : World) (e : Ending) (w' : World) : Prop :=
  (chk l ≠ 0 ∧ e = .returned (.tuple #[.slice none 0 0, .int .i64 (chk l)]) ∧ Qt w w') ∨
  (chk l = 0 ∧ ¬ (memB l.length x = true ∧ memB l.length y = true) ∧ e = .returned (.tuple #[.slice none 0 0, .int .i64 4]) ∧ Qt w w') ∨
  (chk l = 0 ∧ memB l.length x = true ∧ memB l.length y = true ∧ ∃ v, e = .returned (.tuple #[v, .int .i64 0]) ∧ OwnI w' w.heap.size 3 v (joinOf l x y) ∧ Below w.heap.size w w')

set_option maxHeartbeats 400000 in
theorem RJoin_any (v : Value) (l : List Int) (x y : Int) (w : World) (h : Ints w v l) :
    Calls Try.prog 22 #[v, .int .i64 x, .int .i64 y] w (JoinPost l x y w) := by
  have hI := h
  obtain ⟨a, cap, rfl, hm, hidx, hcell, _⟩ := h.out1 sInt
  clear h
  by_cases h0 : chk l = 0
  · have h0' : (chk l != 0) = false := by simpa using h0
    have H0 := Lib.hid h0
    clear h0
    by_cases hx : memB l.length x = true ∧ memB l.length y = true
    · obtain ⟨gx, gy⟩ := hx
      obtain ⟨hx1, hx2⟩ := memB_iff.1 gx
      obtain ⟨hy1, hy2⟩ := memB_iff.1 gy
      obtain ⟨x, rfl⟩ := Int.eq_ofNat_of_zero_le hx1
      obtain ⟨y, rfl⟩ := Int.eq_ofNat_of_zero_le hy1
      have G := Lib.hid (And.intro gx gy)
      clear gx gy
      go_enter Try.func22, Try.ntmps22
      go_wp2_with fail
      refine (RCheck_any _ l _ hI).mono ?_; rintro e w' ⟨rfl, nw, rfl⟩
      go_wp2_with fail
      refine (Rjoin_any _ l x y _ (hI.qt (Qt.drewN _ _)) (by omega) (by omega) (chk_ok H0.out).1).mono ?_; rintro e w' ⟨v', rfl, ho, hb⟩
      go_wp2_with fail
      go_ret2
      exact .inr (.inr ⟨H0.out, G.out.1, G.out.2, _, rfl, by simpa [joinOf] using ho, ((Qt.drewN w nw).below _).trans hb⟩)
    · have hx' : x < 0 ∨ l.length ≤ x ∨ y < 0 ∨ l.length ≤ y := by simp only [memB_iff] at hx; omega
      have Hx := Lib.hid hx
      clear hx
      by_cases k1 : x < 0
      · go_enter Try.func22, Try.ntmps22
        go_wp2_with fail
        refine (RCheck_any _ l _ hI).mono ?_; rintro e w' ⟨rfl, nw, rfl⟩
        go_wp2_with fail
        go_ret2
        exact .inr (.inl ⟨H0.out, Hx.out, rfl, (by first | exact Qt.refl _ | exact Qt.drewN _ _ | exact (Qt.drewN _ _).trans (Qt.drewN _ _) | exact ((Qt.drewN _ _).trans (Qt.drewN _ _)).trans (Qt.drewN _ _) | exact Qt.drew _ | exact (Qt.drewN _ _).trans (Qt.drew _))⟩)
      by_cases k2 : l.length ≤ x
      · go_enter Try.func22, Try.ntmps22
        go_wp2_with fail
        refine (RCheck_any _ l _ hI).mono ?_; rintro e w' ⟨rfl, nw, rfl⟩
        go_wp2_with fail
        go_ret2
        exact .inr (.inl ⟨H0.out, Hx.out, rfl, (by first | exact Qt.refl _ | exact Qt.drewN _ _ | exact (Qt.drewN _ _).trans (Qt.drewN _ _) | exact ((Qt.drewN _ _).trans (Qt.drewN _ _)).trans (Qt.drewN _ _) | exact Qt.drew _ | exact (Qt.drewN _ _).trans (Qt.drew _))⟩)
      by_cases k3 : y < 0
      · go_enter Try.func22, Try.ntmps22
        go_wp2_with fail
        refine (RCheck_any _ l _ hI).mono ?_; rintro e w' ⟨rfl, nw, rfl⟩
        go_wp2_with fail
        go_ret2
        exact .inr (.inl ⟨H0.out, Hx.out, rfl, (by first | exact Qt.refl _ | exact Qt.drewN _ _ | exact (Qt.drewN _ _).trans (Qt.drewN _ _) | exact ((Qt.drewN _ _).trans (Qt.drewN _ _)).trans (Qt.drewN _ _) | exact Qt.drew _ | exact (Qt.drewN _ _).trans (Qt.drew _))⟩)
      have k4 : l.length ≤ y := by omega
      go_enter Try.func22, Try.ntmps22
      go_wp2_with fail
      refine (RCheck_any _ l _ hI).mono ?_; rintro e w' ⟨rfl, nw, rfl⟩
      go_wp2_with fail
      go_ret2
      exact .inr (.inl ⟨H0.out, Hx.out, rfl, (by first | exact Qt.refl _ | exact Qt.drewN _ _ | exact (Qt.drewN _ _).trans (Qt.drewN _ _) | exact ((Qt.drewN _ _).trans (Qt.drewN _ _)).trans (Qt.drewN _ _) | exact Qt.drew _ | exact (Qt.drewN _ _).trans (Qt.drew _))⟩)
  · have h0' : (chk l != 0) = true := by simpa using h0
    have H0 := Lib.hid h0
    clear h0
    go_enter Try.func22, Try.ntmps22
    go_wp2_with fail
    refine (RCheck_any _ l _ hI).mono ?_; rintro e w' ⟨rfl, nw, rfl⟩
    go_wp2_with fail
    go_ret2
    exact .inl ⟨H0.out, rfl, (by first | exact Qt.refl _ | exact Qt.drewN _ _ | exact (Qt.drewN _ _).trans (Qt.drewN _ _) | exact ((Qt.drewN _ _).trans (Qt.drewN _ _)).trans (Qt.drewN _ _) | exact Qt.drew _ | exact (Qt.drewN _ _).trans (Qt.drew _))⟩

theorem joinL_step (l : List Int) (A B : Int) (k : Nat) (h : k < l.length) (rest : List Int) (hr : rest.length = l.length - k) :
    (joinL (l.take k) A B ++ rest).set k (if nth l k = B then A else nth l k) = joinL (l.take (k+1)) A B ++ rest.tail := by
  rw [take_snoc l k h]
  obtain ⟨r, rs, rfl⟩ : ∃ r rs, rest = r :: rs := by
    cases rest with
    | nil => simp at hr; omega
    | cons r rs => exact ⟨r, rs, rfl⟩
  rw [List.set_append_right _ _ (by simp [joinL]; omega)]
  simp [joinL, show min k l.length = k by omega]

set_option maxHeartbeats 800000 in
theorem Join_any (v : Value) (l : List Int) (x y : Int) (w : World) (h : Ints w v l) :
    Calls Try.prog 21 #[v, .int .i64 x, .int .i64 y] w (JoinPost l x y w) := by
  have hI := h
  obtain ⟨a, cap, rfl, hm, hidx, hcell, hblk⟩ := h.out1 sInt
  clear h
  by_cases h0 : chk l = 0
  · have h0' : (chk l != 0) = false := by simpa using h0
    have H0 := Lib.hid h0
    have hbound := (chk_ok h0).1
    clear h0
    cases gx : memB l.length x
    · go_enter Try.func21, Try.ntmps21
      go_wp2_with fail
      refine (Check_any _ l _ hI).mono ?_; rintro e w' ⟨rfl, nw, rfl⟩
      go_wp2_with fail
      refine (member_any _ l _ _ (hI.qt (Qt.drewN _ _))).mono ?_; rintro e w' ⟨rfl, nw', rfl⟩
      go_wp2_with fail
      go_ret2
      exact .inr (.inl ⟨H0.out, by simp [gx], rfl, (by first | exact Qt.refl _ | exact Qt.drewN _ _ | exact (Qt.drewN _ _).trans (Qt.drewN _ _) | exact ((Qt.drewN _ _).trans (Qt.drewN _ _)).trans (Qt.drewN _ _) | exact Qt.drew _ | exact (Qt.drewN _ _).trans (Qt.drew _))⟩)
    cases gy : memB l.length y
    · go_enter Try.func21, Try.ntmps21
      go_wp2_with fail
      refine (Check_any _ l _ hI).mono ?_; rintro e w' ⟨rfl, nw, rfl⟩
      go_wp2_with fail
      refine (member_any _ l _ _ (hI.qt (Qt.drewN _ _))).mono ?_; rintro e w' ⟨rfl, nw', rfl⟩
      go_wp2_with fail
      refine (member_any _ l _ _ (hI.qt (by first | exact Qt.refl _ | exact Qt.drewN _ _ | exact (Qt.drewN _ _).trans (Qt.drewN _ _) | exact ((Qt.drewN _ _).trans (Qt.drewN _ _)).trans (Qt.drewN _ _) | exact Qt.drew _ | exact (Qt.drewN _ _).trans (Qt.drew _)))).mono ?_; rintro e w' ⟨rfl, nw'', rfl⟩
      go_wp2_with fail
      go_ret2
      exact .inr (.inl ⟨H0.out, by simp [gy], rfl, (by first | exact Qt.refl _ | exact Qt.drewN _ _ | exact (Qt.drewN _ _).trans (Qt.drewN _ _) | exact ((Qt.drewN _ _).trans (Qt.drewN _ _)).trans (Qt.drewN _ _) | exact Qt.drew _ | exact (Qt.drewN _ _).trans (Qt.drew _))⟩)
    obtain ⟨hx1, hx2⟩ := memB_iff.1 gx
    obtain ⟨hy1, hy2⟩ := memB_iff.1 gy
    have hcx := hcell x.toNat (by omega)
    have hcy := hcell y.toNat (by omega)
    have hmn := run_mn Try.prog
    have hmx := run_mx Try.prog
    go_enter Try.func21, Try.ntmps21
    go_wp2_with fail
    refine (Check_any _ l _ hI).mono ?_; rintro e w' ⟨rfl, nw, rfl⟩
    go_wp2_with fail
    refine (member_any _ l _ _ (hI.qt (Qt.drewN _ _))).mono ?_; rintro e w' ⟨rfl, nw', rfl⟩
    go_wp2_with fail
    refine (member_any _ l _ _ (hI.qt (by first | exact Qt.refl _ | exact Qt.drewN _ _ | exact (Qt.drewN _ _).trans (Qt.drewN _ _) | exact ((Qt.drewN _ _).trans (Qt.drewN _ _)).trans (Qt.drewN _ _) | exact Qt.drew _ | exact (Qt.drewN _ _).trans (Qt.drew _)))).mono ?_; rintro e w' ⟨rfl, nw'', rfl⟩
    go_wp2_with fail
    go_quiet (fail)
    have HJ : Hid (joinOf l x y = joinL l (mn (nth l x.toNat) (nth l y.toNat)) (mx (nth l x.toNat) (nth l y.toNat))) := rfl
    generalize mn (nth l x.toNat) (nth l y.toNat) = A at *
    generalize mx (nth l x.toNat) (nth l y.toNat) = B at *
    go_wp2_with (at_make; refine wp_make (0 : Int) sInt rfl _ rfl _ _ rfl .i64 .i64 _ _ l.length rfl rfl rfl rfl ?c1 ?c2 ?_)
    case c1 => omega
    case c2 => unfold maxLen; omega
    intro s cap2 w1 hown hb
    have hb : Below w.heap.size w w1 := ((Qt.drewN w _).below _).trans hb
    clear hmn hmx hcx hcy
    go_wp2
    go_loopw [12, 13, 52] (fun _ _ i wr => ∃ (k : Nat) (rest : List Int), k ≤ l.length ∧ i = .int .i64 k ∧ Below w.heap.size w wr ∧ rest.length = l.length - k ∧ OwnI wr w.heap.size 3 (.slice s l.length cap2) (joinL (l.take k) A B ++ rest)) (fun _ _ i _ => l.length - (intOf i).toNat)
    case atStart => exact ⟨0, List.replicate l.length 0, by omega, rfl, hb, by simp, by simpa [joinL] using hown⟩
    case round =>
      obtain ⟨k, rest, hk, rfl, hbw, hrl, ho⟩ := hrel
      by_cases hlt : k < l.length
      · have hl : (joinL (l.take k) A B ++ rest).length = l.length := by simp [joinL, hrl]; omega
        have hfz := ho.frozen (by omega) (ofs s + k)
        have hblk2 := ho.blkge (by omega)
        obtain ⟨a2, c2, he, hm2, hidx2, hcell2, _⟩ := ho.lst.out1 sInt
        simp at he
        obtain ⟨rfl, he, rfl⟩ := he
        rw [hl] at hidx2 hcell2
        have hck2 := hcell2 k hlt
        have hck : wr.cell? ⟨blk a, ofs a + k, none⟩ = some (.int .i64 (nth l k)) := by
          rw [hbw.cell (p := ⟨blk a, ofs a + k, none⟩) (hblk k hlt)]; exact hcell k hlt
        have Hs := Lib.hid (joinL_step l A B k hlt rest hrl)
        have hrl' : rest.tail.length = l.length - (k+1) := by simp; omega
        have Hrl := Lib.hid hrl'
        clear hl he hm2 hcell2 hcell hrl hrl'
        by_cases hB : nth l k = B
        · have hB' : (nth l k == B) = true := by simpa using hB
          have Hset := ho.set k A
          rw [show (joinL (l.take k) A B ++ rest).set k A = joinL (l.take (k+1)) A B ++ rest.tail by rw [← Hs.out, if_pos hB]] at Hset
          have hb2 : Below w.heap.size w (wr.setCell ⟨blk s, ofs s + k, none⟩ (.int .i64 A)) := hbw.setCell hblk2.1 _
          have HS := Lib.hid Hset
          clear Hset hB ho
          go_wp2
          go_roundw
          case rel => exact ⟨k + 1, rest.tail, by omega, by go_num, hb2, Hrl.out, HS.out⟩
          case measure => simp [intOf]; omega
        · have hB' : (nth l k == B) = false := by simpa using hB
          have Hset := ho.set k (nth l k)
          rw [show (joinL (l.take k) A B ++ rest).set k (nth l k) = joinL (l.take (k+1)) A B ++ rest.tail by rw [← Hs.out, if_neg hB]] at Hset
          have hb2 : Below w.heap.size w (wr.setCell ⟨blk s, ofs s + k, none⟩ (.int .i64 (nth l k))) := hbw.setCell hblk2.1 _
          have HS := Lib.hid Hset
          clear Hset hB ho
          go_wp2
          go_roundw
          case rel => exact ⟨k + 1, rest.tail, by omega, by go_num, hb2, Hrl.out, HS.out⟩
          case measure => simp [intOf]; omega
      · have ek : l.take k = l := List.take_of_length_le (by omega)
        have er : rest = [] := List.eq_nil_of_length_eq_zero (by omega)
        rw [ek, er] at ho
        clear ek er
        go_wp2
        go_ret2
        exact .inr (.inr ⟨H0.out, gx, gy, _, rfl, by rw [HJ.out]; simpa using ho, hbw⟩)
  · have h0' : (chk l != 0) = true := by simpa using h0
    have H0 := Lib.hid h0
    clear h0
    go_enter Try.func21, Try.ntmps21
    go_wp2_with fail
    refine (Check_any _ l _ hI).mono ?_; rintro e w' ⟨rfl, nw, rfl⟩
    go_wp2_with fail
    go_ret2
    exact .inl ⟨H0.out, rfl, (by first | exact Qt.refl _ | exact Qt.drewN _ _ | exact (Qt.drewN _ _).trans (Qt.drewN _ _) | exact ((Qt.drewN _ _).trans (Qt.drewN _ _)).trans (Qt.drewN _ _) | exact Qt.drew _ | exact (Qt.drewN _ _).trans (Qt.drew _))⟩

end Go.Proofs.Ytmgeadhiohlblaa
