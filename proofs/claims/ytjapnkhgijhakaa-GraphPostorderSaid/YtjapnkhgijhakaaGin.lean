/- Contract of 'in', and plain facts of the statements. -/
import Derived.Test.YtjapnkhgijhakaaGlw
namespace Go.Gra
open Go.Dfl (nth nth_mem mem_nth nth_eq nth_ext)
theorem nodup_le {α : Type} [DecidableEq α] : ∀ (l m : List α), l.Nodup → (∀ x ∈ l, x ∈ m) → l.length ≤ m.length
  | [], _, _, _ => by simp
  | a :: l, m, hn, h => by
    rw [List.nodup_cons] at hn
    have h1 := nodup_le l (m.erase a) hn.2 fun x hx => by
      have hne : x ≠ a := fun e => hn.1 (e ▸ hx)
      exact (List.mem_erase_of_ne hne).2 (h x (List.mem_cons_of_mem _ hx))
    have h2 := List.length_erase_of_mem (h a (by simp))
    have h3 : 0 < m.length := List.length_pos_of_mem (h a (by simp))
    simp only [List.length_cons]
    omega
/-- What Make returns is a graph. -/
theorem MkL.code {n : Int} {es : List (Int × Int)} {g : G} {c : Int} (h : MkL n es g c) (hl : es.length ≤ 32768) (hc : c = 0) : gCode g = 0 := by
  rcases h with ⟨-, h1, -⟩ | ⟨-, h1, -⟩ | ⟨-, -, h1, -⟩ | ⟨⟨h1, h2⟩, h3, -, h5, h6⟩
  · omega
  · omega
  · omega
  · have hn : g.es.Nodup := h6.srt.imp fun {a b} h (e : a = b) => eLt_irrefl a (by rw [← e] at h; exact h)
    have hle := nodup_le g.es es hn fun x hx => (h6.mem x).1 hx
    refine gCode_ok.2 ⟨by omega, by omega, by omega, fun e he => ?_, h6.srt⟩
    have h7 := h3 e ((h6.mem e).1 he)
    simp only [inB, nodeB, Bool.and_eq_true, decide_eq_true_eq] at h7
    rw [h5]; omega
theorem Rch.trans {es : List (Int × Int)} {a b c : Nat} (h : Rch es a b) (k : Rch es b c) : Rch es a c := by
  induction k with
  | refl => exact h
  | step _ hy ih => exact .step ih hy
theorem Rch.one {es : List (Int × Int)} {a b : Nat} (h : b ∈ suc es a) : Rch es a b := .step (.refl _) h
theorem Rch.rev {g : G} (h : VG g) {r : List (Int × Int)} (hr : RevOf g.es r) {a b : Nat} (k : Rch g.es a b) : Rch r b a := by
  induction k with
  | refl => exact .refl _
  | step _ hy ih => exact (Rch.one ((mem_suc_rev h hr).2 hy)).trans ih
theorem RevOf.symm {es r : List (Int × Int)} (hs : es.Pairwise eLt) (h : RevOf es r) : RevOf r es := by
  refine ⟨h.1.symm, hs, fun e => ?_⟩
  obtain ⟨x, y⟩ := e
  rw [List.mem_map]
  constructor
  · intro he
    exact ⟨(y, x), (mem_rev h).2 he, rfl⟩
  · rintro ⟨⟨p, q⟩, hp, he⟩
    simp [swp] at he
    rw [← he.1, ← he.2]
    exact (mem_rev h).1 hp
end Go.Gra
namespace Go.Proofs.Ytjapnkhgijhakaa
open Go.RowKit Go.Dfl Go.Gra
set_option maxHeartbeats 1600000 in
set_option maxRecDepth 100000 in
theorem in_any (v : Value) (l : List Int) (x : Int) (W : World) (h : Ints W v l) : Calls Try.prog 19 #[v, .int .i64 x] W fun e W' => e = .returned (.bool (decide (x ∈ l))) ∧ W' = W := by
  obtain ⟨fa, fc, rfl, hfm, hfi, hfc, -⟩ := h.out1 sIntG
  have HC := Lib.hid (And.intro hfc hfi)
  clear h hfc hfi
  go_enter Try.func19, Try.ntmps19
  go_wp2_with fail
  go_loopw [5] (fun i wr => ∃ k : Nat, k ≤ l.length ∧ i = .int .i64 k ∧ wr = W ∧ Hid (∀ j, j < k → nth l j ≠ x)) (fun i _ => l.length - (intOf i).toNat)
  case atStart => exact ⟨0, by omega, rfl, rfl, fun j hj => by omega⟩
  case round =>
    obtain ⟨k, hk, rfl, rfl, hno⟩ := hrel
    by_cases hlt : k < l.length
    · have hci := HC.out.1 k hlt
      have hii := HC.out.2 .i64 (k : Int) (by omega) (by omega)
      rw [Int.toNat_natCast] at hii
      have hkl : (k : Int) < (l.length : Int) := by omega
      obtain ⟨y, hy⟩ : ∃ y, y = nth l k := ⟨_, rfl⟩
      rw [← hy] at hci
      have HY := Lib.hid hy
      clear hy
      by_cases hyx : y = x
      · subst hyx
        have HN : Hid (decide (y ∈ l) = true) := Lib.hid (by rw [decide_eq_true_eq, HY.out]; exact nth_mem _ _ hlt)
        go_wp2_with fail
        go_ret
        rw [HN.out]; exact ⟨rfl, rfl⟩
      · have q1 : (y == x) = false := by simpa using hyx
        have HN := Lib.hid hyx
        clear hyx
        go_wp2_with fail
        go_roundw
        case rel => exact ⟨k + 1, by omega, by go_num, trivial, fun j hj => by
          by_cases e : j = k
          · subst e; rw [← HY.out]; exact HN.out
          · exact hno.out j (by omega)⟩
        case measure => simp [intOf]; omega
    · obtain rfl : k = l.length := by omega
      have HN : Hid (decide (x ∈ l) = false) := Lib.hid (by
        rw [decide_eq_false_iff_not]
        intro hm
        obtain ⟨j, hj, e⟩ := mem_nth hm
        exact hno.out j hj e)
      clear hno hlt hk
      go_wp2_with fail
      go_ret
      rw [HN.out]; exact ⟨rfl, rfl⟩
end Go.Proofs.Ytjapnkhgijhakaa
