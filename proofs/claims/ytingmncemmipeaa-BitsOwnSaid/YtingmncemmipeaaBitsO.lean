/- Contracts of the reference's Merge, Union, Minus, Both, Drop. -/
import Derived.Test.YtingmncemmipeaaBitsN
import Derived.Test.YtingmncemmipeaaBitsG
namespace Go.Proofs.Ytingmncemmipeaa
open Go.RowKit Go.Dfl

/-- What a function of the reference returns that makes a set. -/
def RSetPost (p : Nat → Bool) (w : World) (e : Ending) (w' : World) : Prop := ∃ s m c r, e = .returned (.slice s m c) ∧ Words w' (.slice s m c) r ∧ Wds r ∧ Norm r ∧ (∀ y, hasN r y = p y) ∧ Below w.heap.size w w'

theorem els_bound {b : List Nat} (hlen : b.length ≤ 65536) {z : Int} (h : z ∈ els b) : 0 ≤ z ∧ z < 4194304 := by
  obtain ⟨m, rfl, h1, -⟩ := mem_elsUp.1 h; omega

theorem Make_set {v : Value} {L : List Int} {w w0 : World} {p : Nat → Bool} (h : Ints w v L) (hl : Asc L) (hb : ∀ y ∈ L, 0 ≤ y ∧ y < 4194304) (hlen : L.length ≤ 8388608) (hp : ∀ y : Nat, (decide ((y : Int) ∈ L)) = p y) (hb0 : Below w0.heap.size w0 w) :
    Calls Try.prog 14 #[v] w (RSetPost p w0) := by
  refine (Make_any v L w h hl (fun y hy => ⟨(hb y hy).1, by have := (hb y hy).2; omega⟩) (by omega)).mono ?_
  rintro e w' ⟨v', r, rfl, ho, h1, h2, h3, h4⟩
  obtain ⟨s, c, rfl⟩ := ho.shape rfl
  exact ⟨s, _, c, r, rfl, ho.lst, h1, h2, fun y => (h3 y).trans (hp y), hb0.trans (h4.mono hb0.size)⟩

theorem cell_alloc1 (W : World) (v : Value) (t : TypeId) : (W.alloc (.cells #[v] t)).cell? ⟨W.heap.size, 0, none⟩ = some v := by
  unfold World.cell?
  rw [heap_alloc_new]
  rfl
theorem le_alloc {n : Nat} {W : World} (o : Obj) (h : n ≤ W.heap.size) : n ≤ (W.alloc o).heap.size := by simp; omega



set_option maxHeartbeats 6400000 in
set_option maxRecDepth 100000 in
theorem Merge_any (v u : Value) (b c : List Nat) (f s t : Bool) (w : World) (hI : Words w v b) (hI' : Words w u c) (hb : Wds b) (hc : Wds c) (hlen : b.length ≤ 65536) (hlen' : c.length ≤ 65536) :
    Calls Try.prog 42 #[v, u, .bool f, .bool s, .bool t] w (RSetPost (fun y => selB (els b) (els c) f s t y) w) := by
  go_enter Try.func42, Try.ntmps42
  go_wp2_with fail
  refine (RList_any _ b _ hI hb hlen).mono ?_; rintro e w1 ⟨v1, rfl, ho, hbw⟩
  obtain ⟨s1, c1, rfl⟩ := ho.shape rfl
  go_wp2_with fail
  refine (RList_any _ c _ (hI'.below hbw) hc hlen').mono ?_; rintro e w2 ⟨v2, rfl, ho2, hbw2⟩
  obtain ⟨s2, c2, rfl⟩ := ho2.shape rfl
  have hb2 : Below w.heap.size w w2 := hbw.trans (hbw2.mono hbw.size)
  obtain ⟨a3, c3, he, hm3, hidx, hcell, hblk⟩ := (ho.lst.below hbw2).out1 sInt
  simp at he
  obtain ⟨rfl, rfl⟩ := he
  obtain ⟨a4, c4, he, hm4, hidx', hcell', hblk'⟩ := ho2.lst.out1 sInt
  simp at he
  obtain ⟨rfl, rfl⟩ := he
  have hXl : (els b).length ≤ 64 * b.length := elsUp_len _ _
  have hYl : (els c).length ≤ 64 * c.length := elsUp_len _ _
  have HF : Hid (Asc (els b) ∧ Asc (els c) ∧ (∀ z ∈ els b, 0 ≤ z ∧ z < 4194304) ∧ ∀ z ∈ els c, 0 ≤ z ∧ z < 4194304) := ⟨els_asc b, els_asc c, fun z hz => els_bound hlen hz, fun z hz => els_bound hlen' hz⟩
  have HC := Lib.hid (And.intro hcell (And.intro hblk (And.intro hcell' hblk')))
  clear ho ho2 hbw hbw2 hcell hcell' hblk hblk' hI hI' hb hc hm3 hm4
  generalize hX : els b = X at *
  generalize hY : els c = Y at *
  have HXY := Lib.hid (And.intro hX hY)
  clear hX hY
  go_wp2_with fail
  go_loopg [13, 14, 15] (X.length + Y.length) (fun g o x y wr => ∃ (i k : Nat) (out : List Int), i + k + g = X.length + Y.length ∧ i ≤ X.length ∧ k ≤ Y.length ∧ x = .int .i64 (i : Int) ∧ y = .int .i64 (k : Int) ∧ Hid (MgInv X Y f s t i k out ∧ Below w2.heap.size w2 wr ∧ OwnI wr w2.heap.size 3 o out))
  case atStart => exact ⟨0, 0, [], by omega, by omega, by omega, rfl, rfl, MgInv.start _ _ _ _ _, Below.refl _ _, Own.nil _ _ _ _⟩
  case round =>
    obtain ⟨i, k, out, hg, hi, hk, rfl, rfl, hh⟩ := hrel
    by_cases hi2 : i < X.length
    · have hcx : wr.cell? ⟨blk s1, ofs s1 + i, none⟩ = some (.int .i64 (nth X i)) := by
        rw [hh.out.2.1.cell (p := ⟨blk s1, ofs s1 + i, none⟩) (HC.out.2.1 i hi2)]; exact HC.out.1 i hi2
      have hlx : decide ((i : Int) < (X.length : Int)) = true := by simpa using hi2
      have hex : ((i : Int) == (X.length : Int)) = false := by rw [beq_eq_false_iff_ne]; omega
      by_cases hk2 : k < Y.length
      · have hcy : wr.cell? ⟨blk s2, ofs s2 + k, none⟩ = some (.int .i64 (nth Y k)) := by
          rw [hh.out.2.1.cell (p := ⟨blk s2, ofs s2 + k, none⟩) (HC.out.2.2.2 k hk2)]; exact HC.out.2.2.1 k hk2
        have hey : ((k : Int) == (Y.length : Int)) = false := by rw [beq_eq_false_iff_ne]; omega
        by_cases hlt : nth X i < nth Y k
        · have hst := hh.out.1.takeX HF.out.1 HF.out.2.1 hi2 (fun _ => hlt)
          have HS := Lib.hid hst
          clear hst
          cases f
          · go_wp2_with fail
            go_quiet (fail)
            go_wp2_with fail
            go_roundg (gk - 1)
            case measure => omega
            case rel => exact ⟨i + 1, k, out, by omega, by omega, hk, by go_num, rfl, HS.out, below_drewN hh.out.2.1 _, hh.out.2.2.qt (Qt.drewN _ _)⟩
          · have hsz := hh.out.2.1.size
            have hln := hh.out.1.len
            have HL : Hid (out.length < 17592186044416) := by show _ < _; omega
            clear hln
            go_wp2_with fail
            go_quiet (fail)
            skip
            go_wp2_with (at_builtin; refine wp_append1 (f := Value.int .i64) sInt rfl _ rfl _ _ rfl w2.heap.size _ out rfl ((hh.out.2.2.qt (Qt.drewN _ _)).alloc _) (nth X i) ⟨wr.heap.size, 0, none⟩ rfl (cell_alloc1 _ _ _) rfl HL.out (by omega) (le_alloc _ hsz) ?_; intro v' w3 hown hgr hb3)
            go_roundg (gk - 1)
            case measure => omega
            case rel => exact ⟨i + 1, k, out ++ [nth X i], by omega, by omega, hk, by go_num, rfl, HS.out, ((below_drewN hh.out.2.1 _).alloc hh.out.2.1.size _).trans hb3, hown⟩
        · by_cases hgt : nth Y k < nth X i
          · have hst := hh.out.1.takeY HF.out.1 HF.out.2.1 hk2 (fun _ => hgt)
            have HS := Lib.hid hst
            clear hst
            cases s
            · go_wp2_with fail
              go_quiet (fail)
              go_wp2_with fail
              go_quiet (fail)
              go_wp2_with fail
              go_roundg (gk - 1)
              case measure => omega
              case rel => exact ⟨i, k + 1, out, by omega, hi, by omega, rfl, by go_num, HS.out, below_drewN hh.out.2.1 _, hh.out.2.2.qt (Qt.drewN _ _)⟩
            · have hsz := hh.out.2.1.size
              have hln := hh.out.1.len
              have HL : Hid (out.length < 17592186044416) := by show _ < _; omega
              clear hln
              go_wp2_with fail
              go_quiet (fail)
              go_wp2_with fail
              go_quiet (fail)
              go_wp2_with (at_builtin; refine wp_append1 (f := Value.int .i64) sInt rfl _ rfl _ _ rfl w2.heap.size _ out rfl ((hh.out.2.2.qt (Qt.drewN _ _)).alloc _) (nth Y k) ⟨wr.heap.size, 0, none⟩ rfl (cell_alloc1 _ _ _) rfl HL.out (by omega) (le_alloc _ hsz) ?_; intro v' w3 hown hgr hb3)
              go_roundg (gk - 1)
              case measure => omega
              case rel => exact ⟨i, k + 1, out ++ [nth Y k], by omega, hi, by omega, rfl, by go_num, HS.out, ((below_drewN hh.out.2.1 _).alloc hh.out.2.1.size _).trans hb3, hown⟩
          · have hst := hh.out.1.takeB HF.out.1 HF.out.2.1 hi2 hk2 (by omega)
            have HS := Lib.hid hst
            clear hst
            cases t
            · go_wp2_with fail
              go_quiet (fail)
              go_wp2_with fail
              go_quiet (fail)
              go_wp2_with fail
              go_roundg (gk - 2)
              case measure => omega
              case rel => exact ⟨i + 1, k + 1, out, by omega, by omega, by omega, by go_num, by go_num, HS.out, below_drewN hh.out.2.1 _, hh.out.2.2.qt (Qt.drewN _ _)⟩
            · have hsz := hh.out.2.1.size
              have hln := hh.out.1.len
              have HL : Hid (out.length < 17592186044416) := by show _ < _; omega
              clear hln
              go_wp2_with fail
              go_quiet (fail)
              go_wp2_with fail
              go_quiet (fail)
              go_wp2_with (at_builtin; refine wp_append1 (f := Value.int .i64) sInt rfl _ rfl _ _ rfl w2.heap.size _ out rfl ((hh.out.2.2.qt (Qt.drewN _ _)).alloc _) (nth X i) ⟨wr.heap.size, 0, none⟩ rfl (cell_alloc1 _ _ _) rfl HL.out (by omega) (le_alloc _ hsz) ?_; intro v' w3 hown hgr hb3)
              go_roundg (gk - 2)
              case measure => omega
              case rel => exact ⟨i + 1, k + 1, out ++ [nth X i], by omega, by omega, by omega, by go_num, by go_num, HS.out, ((below_drewN hh.out.2.1 _).alloc hh.out.2.1.size _).trans hb3, hown⟩
      · obtain rfl : k = Y.length := by omega
        have hst := hh.out.1.takeX HF.out.1 HF.out.2.1 hi2 (fun h => absurd h (by omega))
        have HS := Lib.hid hst
        clear hst
        cases f
        · go_wp2_with fail
          go_quiet (fail)
          go_wp2_with fail
          go_roundg (gk - 1)
          case measure => omega
          case rel => exact ⟨i + 1, Y.length, out, by omega, by omega, by omega, by go_num, rfl, HS.out, below_drewN hh.out.2.1 _, hh.out.2.2.qt (Qt.drewN _ _)⟩
        · have hsz := hh.out.2.1.size
          have hln := hh.out.1.len
          have HL : Hid (out.length < 17592186044416) := by show _ < _; omega
          clear hln
          go_wp2_with fail
          go_quiet (fail)
          skip
          go_wp2_with (at_builtin; refine wp_append1 (f := Value.int .i64) sInt rfl _ rfl _ _ rfl w2.heap.size _ out rfl ((hh.out.2.2.qt (Qt.drewN _ _)).alloc _) (nth X i) ⟨wr.heap.size, 0, none⟩ rfl (cell_alloc1 _ _ _) rfl HL.out (by omega) (le_alloc _ hsz) ?_; intro v' w3 hown hgr hb3)
          go_roundg (gk - 1)
          case measure => omega
          case rel => exact ⟨i + 1, Y.length, out ++ [nth X i], by omega, by omega, by omega, by go_num, rfl, HS.out, ((below_drewN hh.out.2.1 _).alloc hh.out.2.1.size _).trans hb3, hown⟩
    · obtain rfl : i = X.length := by omega
      by_cases hk2 : k < Y.length
      · have hcy : wr.cell? ⟨blk s2, ofs s2 + k, none⟩ = some (.int .i64 (nth Y k)) := by
          rw [hh.out.2.1.cell (p := ⟨blk s2, ofs s2 + k, none⟩) (HC.out.2.2.2 k hk2)]; exact HC.out.2.2.1 k hk2
        have hey : ((k : Int) == (Y.length : Int)) = false := by rw [beq_eq_false_iff_ne]; omega
        have hlx : decide ((X.length : Int) < (X.length : Int)) = false := by simp
        have hst := hh.out.1.takeY HF.out.1 HF.out.2.1 hk2 (fun h => absurd h (by omega))
        have HS := Lib.hid hst
        clear hst
        cases s
        · go_wp2_with fail
          go_quiet (fail)
          go_wp2_with fail
          go_quiet (fail)
          go_wp2_with fail
          go_roundg (gk - 1)
          case measure => omega
          case rel => exact ⟨X.length, k + 1, out, by omega, hi, by omega, rfl, by go_num, HS.out, below_drewN hh.out.2.1 _, hh.out.2.2.qt (Qt.drewN _ _)⟩
        · have hsz := hh.out.2.1.size
          have hln := hh.out.1.len
          have HL : Hid (out.length < 17592186044416) := by show _ < _; omega
          clear hln
          go_wp2_with fail
          go_quiet (fail)
          go_wp2_with fail
          go_quiet (fail)
          go_wp2_with (at_builtin; refine wp_append1 (f := Value.int .i64) sInt rfl _ rfl _ _ rfl w2.heap.size _ out rfl ((hh.out.2.2.qt (Qt.drewN _ _)).alloc _) (nth Y k) ⟨wr.heap.size, 0, none⟩ rfl (cell_alloc1 _ _ _) rfl HL.out (by omega) (le_alloc _ hsz) ?_; intro v' w3 hown hgr hb3)
          go_roundg (gk - 1)
          case measure => omega
          case rel => exact ⟨X.length, k + 1, out ++ [nth Y k], by omega, hi, by omega, rfl, by go_num, HS.out, ((below_drewN hh.out.2.1 _).alloc hh.out.2.1.size _).trans hb3, hown⟩
      · obtain rfl : k = Y.length := by omega
        have HD := Lib.hid hh.out
        clear hh
        go_wp2_with fail
        obtain ⟨h1, h2, h3⟩ := HD.out
        have hbb : Below w.heap.size w wr := hb2.trans (h2.mono hb2.size)
        have hsel : ∀ z ∈ out, 0 ≤ z ∧ z < 4194304 := fun z hz => by
          rcases ((h1.mem z).1 hz).2 with a | a
          · exact HF.out.2.2.1 z (List.mem_of_mem_take a)
          · exact HF.out.2.2.2 z (List.mem_of_mem_take a)
        refine (Make_set (w0 := w) (p := fun y : Nat => selB X Y f s t (y : Int)) h3.lst h1.asc hsel (by have := h1.len; omega) (fun y => by rw [Bool.eq_iff_iff, decide_eq_true_eq, h1.done]) hbb).mono ?_
        rintro e w5 ⟨s5, m5, c5, r5, rfl, q1, q2, q3, q4, q5⟩
        go_wp2_with fail
        go_ret
        exact ⟨s5, m5, c5, r5, rfl, q1, q2, q3, fun y => by rw [q4 y, ← HXY.out.1, ← HXY.out.2], q5⟩

end Go.Proofs.Ytingmncemmipeaa
