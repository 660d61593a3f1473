/- Contract of the reference's Same. -/
import Derived.Test.YtchmjgjagaaomaaGre
namespace Go.Proofs.Ytchmjgjagaaomaa
open Go.RowKit Go.Dfl Go.Gra
def sameB (a b : G) : Bool := decide (a.n = b.n ∧ a.es = b.es)
set_option maxHeartbeats 1600000 in
set_option maxRecDepth 100000 in
theorem rSame_any (p q : G) (v u : Value) (W : World) (h : Pairs W v p.es) (h' : Pairs W u q.es) : Calls Try.prog 25 #[GV p v, GV q u] W fun e W' => e = .returned (.bool (sameB p q)) ∧ Below W.heap.size W W' := by
  obtain ⟨ca, cc, rfl, hlen, hci, hcc⟩ := pairs_rd h
  obtain ⟨da, dc, rfl, hlen', hdi, hdc⟩ := pairs_rd h'
  have hb1 : Below W.heap.size W ((W.alloc (.cells #[.int .i64 p.n, .slice ca p.es.length cc] 24)).alloc (.cells #[.int .i64 q.n, .slice da q.es.length dc] 24)) := ((Below.refl _ _).alloc (Nat.le_refl _) _).alloc (by rw [World.size_alloc]; omega) _
  have H := Lib.hid (And.intro hcc (And.intro hdc hb1))
  have hgd : ∀ (op : BinOp) (a b : Operand) (x y : Int × Int) (w : World), (eqGuard op 35 a b (ev x) (ev y)).run Try.prog w = .ok () w := GuardAt.agg (P := Try.prog) (T := 35) (fun x : Int × Int => #[.int .i64 x.1, .int .i64 x.2]) (by kernel_rfl)
  have HG := Lib.hid hgd
  clear h h' hcc hdc hb1 hgd
  unfold GV
  by_cases hn : p.n = q.n
  · by_cases hl : p.es.length = q.es.length
    · have hd1 : (p.n != q.n) = false := by simpa using hn
      have hd2 : ((p.es.length : Int) != (q.es.length : Int)) = false := by simp; omega
      have HNL := Lib.hid (And.intro hn hl)
      have hle : p.es.length ≤ q.es.length := by omega
      clear hn hl
      go_enter Try.func25, Try.ntmps25
      go_wp2_with fail
      go_loopw [5] (fun x wr => ∃ k : Nat, k ≤ p.es.length ∧ x = .int .i64 k ∧ Qt ((W.alloc (.cells #[.int .i64 p.n, .slice ca p.es.length cc] 24)).alloc (.cells #[.int .i64 q.n, .slice da q.es.length dc] 24)) wr ∧ Hid (∀ j, j < k → nth p.es j = nth q.es j)) (fun x _ => p.es.length - (intOf x).toNat)
      case atStart => exact ⟨0, by omega, rfl, Qt.refl _, fun j hj => by omega⟩
      case round =>
        obtain ⟨k, hk, rfl, ⟨nw, rfl⟩, hch⟩ := hrel
        have hbw : Below W.heap.size W (((W.alloc (.cells #[.int .i64 p.n, .slice ca p.es.length cc] 24)).alloc (.cells #[.int .i64 q.n, .slice da q.es.length dc] 24)).drewN nw) := below_drewN H.out.2.2 nw
        have HB := Lib.hid hbw
        by_cases hlt : k < p.es.length
        · have hlt' : k < q.es.length := by omega
          obtain ⟨c1, c2⟩ := (H.out.1 k hlt).2 _ H.out.2.2
          obtain ⟨c3, c4⟩ := (H.out.2.1 k hlt').2 _ H.out.2.2
          obtain ⟨x, hx⟩ : ∃ x, x = nth p.es k := ⟨_, rfl⟩
          obtain ⟨y, hy⟩ : ∃ y, y = nth q.es k := ⟨_, rfl⟩
          rw [← hx] at c1 c2
          rw [← hy] at c3 c4
          have HXY := Lib.hid (And.intro hx hy)
          clear hx hy hbw
          obtain ⟨x1, x2⟩ := x
          obtain ⟨y1, y2⟩ := y
          dsimp only at c1 c2 c3 c4
          have hg1 := HG.out .neq (.tmp 31) (.tmp 36) (x1, x2) (y1, y2)
          have he : ∀ w, (binOp .neq 35 (.agg #[.int .i64 x1, .int .i64 x2]) (.agg #[.int .i64 y1, .int .i64 y2])).run Try.prog w = .ok (.bool (decide ((x1, x2) ≠ (y1, y2)))) w := fun w => edge_neq (x1, x2) (y1, y2) w
          by_cases hxy : (x1, x2) = (y1, y2)
          · rw [show decide ((x1, x2) ≠ (y1, y2)) = false by simp [hxy]] at he
            have HK : Hid (nth p.es k = nth q.es k) := Lib.hid (by rw [← HXY.out.1, ← HXY.out.2, hxy])
            clear hxy
            go_wp2_with fail
            go_quiet (fail)
            go_wp2_with fail
            go_roundw
            case rel => exact ⟨k + 1, by omega, by go_num, (by first | exact Qt.refl _ | exact Qt.drewN _ _ | exact (Qt.drewN _ _).trans (Qt.drewN _ _) | exact ((Qt.drewN _ _).trans (Qt.drewN _ _)).trans (Qt.drewN _ _) | exact Qt.drew _ | exact (Qt.drewN _ _).trans (Qt.drew _)), fun j hj => by
              by_cases e : j = k
              · subst e; exact HK.out
              · exact hch.out j (by omega)⟩
            case measure => simp [intOf]; omega
          · rw [show decide ((x1, x2) ≠ (y1, y2)) = true by simp [hxy]] at he
            have HK : Hid (¬ p.es = q.es) := Lib.hid (fun e => hxy (by rw [HXY.out.1, HXY.out.2, e]))
            clear hxy
            go_wp2_with fail
            go_quiet (fail)
            go_wp2_with fail
            go_ret
            exact ⟨ret_bool (by simp [sameB, HK.out]), by first | exact below_drewN HB.out _ | exact HB.out | exact H.out.2.2.drew | exact below_drewN H.out.2.2 _⟩
        · go_wp2_with fail
          go_ret
          exact ⟨ret_bool (by simp only [sameB, HNL.out.1, true_and]; exact (decide_eq_true (nth_ext HNL.out.2 (fun i hi => hch.out i (by omega)))).symm), HB.out⟩
    · have hd1 : (p.n != q.n) = false := by simpa using hn
      have hd2 : ((p.es.length : Int) != (q.es.length : Int)) = true := by simp; omega
      have HL := Lib.hid hl
      clear hl hn
      go_enter Try.func25, Try.ntmps25
      go_wp2_with fail
      go_ret
      exact ⟨ret_bool (by have h1 : ¬ p.es = q.es := fun e => HL.out (by rw [e]); simp [sameB, h1]), H.out.2.2⟩
  · have hd1 : (p.n != q.n) = true := by simpa using hn
    have HL := Lib.hid hn
    clear hn
    go_enter Try.func25, Try.ntmps25
    go_wp2_with fail
    go_ret
    exact ⟨ret_bool (by simp [sameB, HL.out]), H.out.2.2⟩
end Go.Proofs.Ytchmjgjagaaomaa
