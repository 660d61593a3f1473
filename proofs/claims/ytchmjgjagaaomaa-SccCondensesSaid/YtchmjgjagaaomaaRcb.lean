/- Contract of the reference's Components. -/
import Derived.Test.YtchmjgjagaaomaaGn
namespace Go.Proofs.Ytchmjgjagaaomaa
open Go.RowKit Go.Dfl Go.Gra Go.Tj
set_option maxHeartbeats 6400000 in
set_option maxRecDepth 100000 in
theorem rComps_any (g : G) (cv : Value) (W : World) (h : Pairs W cv g.es) : Calls Try.prog 17 #[GV g cv] W (CompsR g W) := by
  obtain ⟨ca, cc, rfl, -, -, -⟩ := pairs_rd h
  have hal := (Below.refl W.heap.size W).alloc (Nat.le_refl _) (.cells #[.int .i64 g.n, .slice ca g.es.length cc] 24)
  have H0 := Lib.hid (And.intro (h.below hal) (And.intro hal (BoxG.new W g.n (.slice ca g.es.length cc) 24)))
  clear h hal
  unfold GV
  go_enter Try.func17, Try.ntmps17
  go_wp2_with fail
  have hck := rCheck_any g (.slice ca g.es.length cc) _ H0.out.1
  unfold GV at hck
  refine hck.mono ?_
  rintro e W1 ⟨rfl, r1⟩
  have H1 := Lib.hid (And.intro (H0.out.1.below r1) (And.intro (H0.out.2.1.trans (r1.mono H0.out.2.1.size)) (H0.out.2.2.below r1)))
  clear r1 hck
  obtain ⟨c0, c1⟩ := H1.out.2.2
  by_cases hc : gCode g = 0
  · have q0 : (gCode g != 0) = false := by simpa using hc
    have hvg := gCode_ok.1 hc
    obtain ⟨n, hn⟩ : ∃ n : Nat, g.n = n := ⟨g.n.toNat, by have := hvg.n0; omega⟩
    have hn8 : n ≤ 8192 := by have := hvg.n1; omega
    obtain ⟨l, hl⟩ := ex_heads g
    have HV := Lib.hid (And.intro hvg (And.intro hc (And.intro hn hl)))
    have hb := rReached_any g (.slice ca g.es.length cc) W1 H1.out.1 hvg
    unfold GV at hb
    have HB := Lib.hid hb
    have hnn : g.n.toNat = n := by omega
    have HN := Lib.hid (And.intro hn hnn)
    clear hb hc hvg hl hn hnn
    go_wp2_with fail
    refine HB.out.mono ?_
    rintro e W2 ⟨ta, tc, rs, rfl, hG, b2⟩
    rw [HN.out.2] at hG ⊢
    have H2 := Lib.hid (And.intro (H1.out.1.below b2) (And.intro (H1.out.2.1.trans (b2.mono H1.out.2.1.size)) (And.intro (H1.out.2.2.below b2) hG)))
    clear hG b2 c0 c1 HB q0
    obtain ⟨c0, c1⟩ := H2.out.2.2.1
    rw [HN.out.1] at c0
    have hbW : W.heap.size < W2.heap.size := World.block_lt_of_cell? W2 ⟨W.heap.size, 0, none⟩ c0
    go_wp2_with (at_make; refine wp_make (f := Value.bool) false sBoolS rfl _ rfl _ _ rfl .i64 .i64 _ _ n rfl rfl rfl rfl (by omega) (by unfold maxLen; omega) ?_)
    intro sa sc W3 hrow hb3
    rw [← marksH_nil l n] at hrow
    have h3 : RcM W2 W3.heap.size n sc sa (marksH l n []) (.slice none 0 0) [] (compsK g l []) W3 := ⟨hrow, marksH_len _ _ _, fun q hq => (hrow.lt q hq).2, OwnN.empty _ _ _, hb3, hb3.size, Nat.le_refl _⟩
    obtain ⟨B1, hB1⟩ : ∃ B1, B1 = W3.heap.size := ⟨_, rfl⟩
    rw [← hB1] at h3
    have H3 := Lib.hid h3
    clear hrow hb3 h3 c0 c1 hB1
    go_wp2_with fail
    go_loopw [7, 8] (fun o x wr => ∃ (L : List Nat) (la : Option Addr) (lc : Nat) (vs : List Value) (m : Nat), o = .slice la L.length lc ∧ x = .int .i64 (m : Int) ∧ Hid (Hds g l L ∧ m = (compsK g l L).flatten.length ∧ RcM W2 B1 n sc sa (marksH l n L) (.slice la L.length lc) vs (compsK g l L) wr)) (fun _ x _ => n - (intOf x).toNat)
    case atStart => exact ⟨[], none, 0, [], 0, rfl, rfl, Hds.nil, rfl, H3.out⟩
    case round =>
      obtain ⟨L, la, lc, vs, m, rfl, rfl, hh⟩ := hrel
      have HL := Lib.hid hh.out
      clear hh
      have hmn := flatK_le (g := g) (l := l) HL.out.1.nd
      rw [← HL.out.2.1, HN.out.2] at hmn
      have hflt := flatK_lt (g := g) (l := l) HL.out.1.nd
      rw [← HL.out.2.1, HN.out.2] at hflt
      have HFL := Lib.hid hflt
      clear hflt
      obtain ⟨c0, c1⟩ := H2.out.2.2.1.below HL.out.2.2.bel
      rw [HN.out.1] at c0
      by_cases hml : m < n
      · have hmli : (m : Int) < (n : Int) := by omega
        have hex : ∃ x, x < n ∧ OkV g l L x := by
          obtain ⟨v, hv, hvn⟩ := HFL.out.1 hml
          have := HL.out.1.ex HV.out.2.2.2 HV.out.1 (by rw [HN.out.2]; exact hv) hvn
          rw [HN.out.2] at this; exact this
        have HEX := Lib.hid hex
        clear hex
        go_wp2_with fail
        clear c0 c1
        go_loopw [9, 10] (fun y x wr => ∃ (v : Nat) (z : Int), v ≤ n ∧ x = .int .i64 (v : Int) ∧ y = .int .i64 z ∧ Hid (((z = -1 ∧ ∀ w, w < v → ¬ OkV g l L w) ∨ ∃ u : Nat, z = (u : Int) ∧ u < v ∧ OkV g l L u ∧ ∀ w, w < u → ¬ OkV g l L w) ∧ RcM W2 B1 n sc sa (marksH l n L) (.slice la L.length lc) vs (compsK g l L) wr)) (fun _ x _ => n - (intOf x).toNat)
        case atStart => exact ⟨0, -1, by omega, rfl, rfl, .inl ⟨rfl, fun w hw => by omega⟩, HL.out.2.2⟩
        case round =>
          obtain ⟨v, z, hv, rfl, rfl, hh⟩ := hrel
          have HK := Lib.hid hh.out.2
          have hor := hh.out.1
          clear hh
          obtain ⟨c0, c1⟩ := H2.out.2.2.1.below HK.out.bel
          rw [HN.out.1] at c0
          rcases hor with ⟨rfl, hno⟩ | ⟨u, rfl, huv, hu, humin⟩
          · by_cases hvn : v < n
            · have hvl : (v : Int) < (n : Int) := by omega
              obtain ⟨s0, s1, -⟩ := HK.out.rd hvn
              rw [marksH_nth hvn] at s0
              have HNO := Lib.hid hno
              clear hno
              by_cases hin : hdN l (v : Int) ∈ L
              · rw [decide_eq_true hin] at s0
                have HX : Hid (∀ w, w < v + 1 → ¬ OkV g l L w) := Lib.hid fun w hw hO => by
                  by_cases e : w = v
                  · subst e; exact hO.1 hin
                  · exact HNO.out w (by omega) hO
                clear hin
                go_wp2_with fail
                go_roundw
                case rel => exact ⟨v + 1, -1, by omega, by go_num, rfl, .inl ⟨rfl, HX.out⟩, HK.out⟩
                case measure => simp [intOf]; omega
              · rw [decide_eq_false hin] at s0
                have HIN := Lib.hid hin
                clear hin
                go_wp2_with fail
                clear s0 s1 c0 c1
                go_loopw [9, 11] (fun y x wr => ∃ (w : Nat) (z : Int), w ≤ n ∧ x = .int .i64 (w : Int) ∧ y = .int .i64 z ∧ Hid (((z = (v : Int) ∧ ∀ t, t < w → Rt (eG g) v t → ¬ hdN l (t : Int) ∈ L → Rt (eG g) t v) ∨ (z = -1 ∧ ∃ t, t < n ∧ Rt (eG g) v t ∧ ¬ hdN l (t : Int) ∈ L ∧ ¬ Rt (eG g) t v)) ∧ RcM W2 B1 n sc sa (marksH l n L) (.slice la L.length lc) vs (compsK g l L) wr)) (fun _ x _ => n - (intOf x).toNat)
                case atStart => exact ⟨0, (v : Int), by omega, rfl, rfl, .inl ⟨rfl, fun t ht => by omega⟩, HK.out⟩
                case round =>
                  obtain ⟨w, z, hw, rfl, rfl, hh⟩ := hrel
                  have HI := Lib.hid hh.out
                  clear hh
                  obtain ⟨c0, c1⟩ := H2.out.2.2.1.below HI.out.2.bel
                  rw [HN.out.1] at c0
                  by_cases hwn : w < n
                  · have hwl : (w : Int) < (n : Int) := by omega
                    have hrl : (rowsR g).length = n := by rw [rowsR_len, HN.out.2]
                    obtain ⟨ta', tc', he, -, hr⟩ := rows_rdB (H2.out.2.2.2.below HI.out.2.bel)
                    rw [hrl] at he hr
                    simp only [Value.slice.injEq] at he
                    obtain ⟨rfl, -, rfl⟩ := he
                    obtain ⟨i1, r1, va, vc, e1, d1⟩ := hr v hvn
                    obtain ⟨i2, r2, wa, wc, e2, d2⟩ := hr w hwn
                    have l1 : (nth (rowsR g) v).length = n := by rw [rowsR_row HV.out.1 (by rw [HN.out.2]; exact hvn), HN.out.2]
                    have l2 : (nth (rowsR g) w).length = n := by rw [rowsR_row HV.out.1 (by rw [HN.out.2]; exact hwn), HN.out.2]
                    rw [l1] at e1 d1
                    rw [l2] at e2 d2
                    rw [e1] at r1
                    rw [e2] at r2
                    obtain ⟨j1, x1⟩ := d1 w hwn
                    obtain ⟨j2, x2⟩ := d2 v hvn
                    obtain ⟨s0, s1, -⟩ := HI.out.2.rd hwn
                    rw [marksH_nth hwn] at s0
                    have t1 := rowsR_iff HV.out.1 (v := v) (w := w) (by rw [HN.out.2]; exact hvn) (by rw [HN.out.2]; exact hwn)
                    have t2 := rowsR_iff HV.out.1 (v := w) (w := v) (by rw [HN.out.2]; exact hwn) (by rw [HN.out.2]; exact hvn)
                    obtain ⟨b1, hb1⟩ : ∃ b, b = nth (nth (rowsR g) v) w := ⟨_, rfl⟩
                    obtain ⟨b2, hb2⟩ : ∃ b, b = nth (nth (rowsR g) w) v := ⟨_, rfl⟩
                    rw [← hb1] at x1 t1
                    rw [← hb2] at x2 t2
                    clear hr e1 e2 d1 d2 l1 l2 hb1 hb2 hrl
                    have hsame : (b1 = true → ¬ hdN l (w : Int) ∈ L → b2 = true) → ((z = (v : Int) ∧ ∀ t, t < w + 1 → Rt (eG g) v t → ¬ hdN l (t : Int) ∈ L → Rt (eG g) t v) ∨ (z = -1 ∧ ∃ t, t < n ∧ Rt (eG g) v t ∧ ¬ hdN l (t : Int) ∈ L ∧ ¬ Rt (eG g) t v)) := fun hg => by
                      rcases HI.out.1 with ⟨k1, k2⟩ | k1
                      · refine .inl ⟨k1, fun t ht h1 h2 => ?_⟩
                        by_cases e : t = w
                        · subst e; exact t2.1 (hg (t1.2 h1) h2)
                        · exact k2 t (by omega) h1 h2
                      · exact .inr k1
                    have HSM := Lib.hid hsame
                    have HT := Lib.hid (And.intro t1 t2)
                    clear hsame t1 t2
                    cases b1
                    · have hnew := HSM.out (fun h => by simp at h)
                      clear x2 s0 r2 i2 j2 s1
                      have HW3 := Lib.hid hnew
                      clear hnew
                      go_wp2_with fail
                      go_roundw
                      case rel => exact ⟨w + 1, z, by omega, by go_num, rfl, HW3.out, HI.out.2⟩
                      case measure => simp [intOf]; omega
                    · by_cases hin : hdN l (w : Int) ∈ L
                      · rw [decide_eq_true hin] at s0
                        have hnew := HSM.out (fun _ h => absurd hin h)
                        clear hin x2
                        have HW3 := Lib.hid hnew
                        clear hnew
                        go_wp2_with fail
                        go_roundw
                        case rel => exact ⟨w + 1, z, by omega, by go_num, rfl, HW3.out, HI.out.2⟩
                        case measure => simp [intOf]; omega
                      · rw [decide_eq_false hin] at s0
                        cases b2
                        · have hnew : ((-1 : Int) = (v : Int) ∧ ∀ t, t < w + 1 → Rt (eG g) v t → ¬ hdN l (t : Int) ∈ L → Rt (eG g) t v) ∨ ((-1 : Int) = -1 ∧ ∃ t, t < n ∧ Rt (eG g) v t ∧ ¬ hdN l (t : Int) ∈ L ∧ ¬ Rt (eG g) t v) := .inr ⟨rfl, w, hwn, HT.out.1.1 rfl, hin, fun h => by have := HT.out.2.2 h; simp at this⟩
                          clear hin
                          have HW3 := Lib.hid hnew
                          clear hnew
                          go_wp2_with fail
                          go_roundw
                          case rel => exact ⟨w + 1, -1, by omega, by go_num, rfl, HW3.out, HI.out.2⟩
                          case measure => simp [intOf]; omega
                        · have hnew := HSM.out (fun _ _ => rfl)
                          clear hin
                          have HW3 := Lib.hid hnew
                          clear hnew
                          go_wp2_with fail
                          go_roundw
                          case rel => exact ⟨w + 1, z, by omega, by go_num, rfl, HW3.out, HI.out.2⟩
                          case measure => simp [intOf]; omega
                  · obtain rfl : n = w := by omega
                    have HX : Hid ((z = -1 ∧ ∀ w, w < v + 1 → ¬ OkV g l L w) ∨ ∃ u : Nat, z = (u : Int) ∧ u < v + 1 ∧ OkV g l L u ∧ ∀ w, w < u → ¬ OkV g l L w) := Lib.hid (by
                      rcases HI.out.1 with ⟨k1, k2⟩ | ⟨k1, t, k2, k3, k4, k5⟩
                      · exact .inr ⟨v, k1, by omega, ⟨HIN.out, fun t ht h1 h2 => k2 t (by rw [← HN.out.2]; exact ht) h1 h2⟩, HNO.out⟩
                      · refine .inl ⟨k1, fun w hw hO => ?_⟩
                        by_cases e : w = v
                        · subst e; exact k5 (hO.2 t (by rw [HN.out.2]; exact k2) k3 k4)
                        · exact HNO.out w (by omega) hO)
                    clear hwn
                    go_wp2_with fail
                    go_roundw
                    case rel => exact ⟨v + 1, z, by omega, by go_num, rfl, HX.out, HI.out.2⟩
                    case measure => simp [intOf]; omega
            · exfalso
              obtain ⟨x, hx, hO⟩ := HEX.out
              exact hno x (by omega) hO
          · have hun : u < n := by omega
            have hnx := hu.nxt HV.out.2.2.2 HV.out.1 HL.out.1 (by rw [HN.out.2]; exact hun) humin
            have HNX := Lib.hid hnx
            have hfin : decide ((u : Int) < 0) = false := decide_eq_false (by omega)
            have HUN := Lib.hid hun
            clear hu humin hnx
            by_cases hvn : v < n
            · have hvl : (v : Int) < (n : Int) := by omega
              clear huv
              go_wp2_with fail
              clear hfin c0 c1
              obtain ⟨WL, hWL⟩ : ∃ Z, Z = wr := ⟨_, rfl⟩
              have HM0 : Hid (RcM W2 B1 n sc sa (marksU l n L u 0) (.slice la L.length lc) vs (compsK g l L) wr ∧ Below WL.heap.size WL wr ∧ (∀ q, Foot (.slice la L.length lc) vs q → q < WL.heap.size) ∧ B1 ≤ WL.heap.size) := Lib.hid ⟨by rw [marksU_zero]; exact HK.out, by rw [hWL]; exact Below.refl _ _, fun q hq => by rw [hWL]; exact (HK.out.r.foot kIIg q hq).2, by rw [hWL]; exact HK.out.b2⟩
              clear hWL
              go_loopw [8, 12, 13] (fun c lv x wr => ∃ (w k m' : Nat) (ka : Option Addr) (kc : Nat), w ≤ n ∧ x = .int .i64 (w : Int) ∧ c = .int .i64 (m' : Int) ∧ lv = .slice ka k kc ∧ Hid (m' = m + k ∧ k = (compK l u w).length ∧ OwnI wr WL.heap.size 3 (.slice ka k kc) (compK l u w) ∧ RcM W2 B1 n sc sa (marksU l n L u w) (.slice la L.length lc) vs (compsK g l L) wr ∧ WL.heap.size ≤ wr.heap.size)) (fun _ _ x _ => n - (intOf x).toNat)
              case atStart => exact ⟨0, 0, m, none, 0, by omega, rfl, rfl, rfl, rfl, rfl, Go.Dfl.Own.nil _ _ _ _, HM0.out.1, HM0.out.2.1.size⟩
              case round =>
                obtain ⟨w, k, m', ka, kc, hw, rfl, rfl, rfl, hh⟩ := hrel
                have HI := Lib.hid hh.out
                clear hh
                obtain ⟨c0, c1⟩ := H2.out.2.2.1.below HI.out.2.2.2.1.bel
                rw [HN.out.1] at c0
                by_cases hwn : w < n
                · have hwl : (w : Int) < (n : Int) := by omega
                  have hrl : (rowsR g).length = n := by rw [rowsR_len, HN.out.2]
                  obtain ⟨ta', tc', he, -, hr⟩ := rows_rdB (H2.out.2.2.2.below HI.out.2.2.2.1.bel)
                  rw [hrl] at he hr
                  simp only [Value.slice.injEq] at he
                  obtain ⟨rfl, -, rfl⟩ := he
                  obtain ⟨i1, r1, va, vc, e1, d1⟩ := hr u HUN.out
                  obtain ⟨i2, r2, wa, wc, e2, d2⟩ := hr w hwn
                  have l1 : (nth (rowsR g) u).length = n := by rw [rowsR_row HV.out.1 (by rw [HN.out.2]; exact HUN.out), HN.out.2]
                  have l2 : (nth (rowsR g) w).length = n := by rw [rowsR_row HV.out.1 (by rw [HN.out.2]; exact hwn), HN.out.2]
                  rw [l1] at e1 d1
                  rw [l2] at e2 d2
                  rw [e1] at r1
                  rw [e2] at r2
                  obtain ⟨j1, x1⟩ := d1 w hwn
                  obtain ⟨j2, x2⟩ := d2 u HUN.out
                  have t1 := rowsR_iff HV.out.1 (v := u) (w := w) (by rw [HN.out.2]; exact HUN.out) (by rw [HN.out.2]; exact hwn)
                  have t2 := rowsR_iff HV.out.1 (v := w) (w := u) (by rw [HN.out.2]; exact hwn) (by rw [HN.out.2]; exact HUN.out)
                  obtain ⟨b1, hb1⟩ : ∃ b, b = nth (nth (rowsR g) u) w := ⟨_, rfl⟩
                  obtain ⟨b2, hb2⟩ : ∃ b, b = nth (nth (rowsR g) w) u := ⟨_, rfl⟩
                  rw [← hb1] at x1 t1
                  rw [← hb2] at x2 t2
                  have hiff : (b1 = true ∧ b2 = true) ↔ hdN l (w : Int) = u := by
                    rw [t1, t2]
                    have kw := (HV.out.2.2.2.hd (v := w) (by rw [HN.out.2]; exact hwn)).2
                    have ku := (HV.out.2.2.2.hd (v := u) (by rw [HN.out.2]; exact HUN.out)).2
                    rw [HNX.out.1] at ku
                    constructor
                    · rintro ⟨p1, p2⟩
                      exact kw.unique (ku.congr ⟨p1, p2⟩)
                    · intro e
                      rw [e] at kw
                      exact ⟨kw.1.2, kw.1.1⟩
                  clear hr e1 e2 d1 d2 l1 l2 hb1 hb2 hrl t1 t2
                  by_cases hwu : hdN l (w : Int) = u
                  · obtain ⟨rfl, rfl⟩ := hiff.2 hwu
                    have hmk := (marksU_yes (n := n) (L := L) hwn hwu)
                    have hck := compK_yes hwu
                    have hkl : k ≤ n := by rw [HI.out.2.1]; exact Nat.le_trans (compK_le _ _ _) hw
                    have HX := Lib.hid (And.intro hmk (And.intro hck hkl))
                    have hm9 : wrap64 ((m' : Int) + 1) = (m' : Int) + 1 := by have := HI.out.1; unfold wrap64; omega
                    have hll : (compK l u w).length < 17592186044416 := by rw [← HI.out.2.1]; omega
                    have hsz := HI.out.2.2.2.2
                    clear hiff hwu hmk hck hkl
                    go_wp2_with (at_builtin; refine wp_append1at (f := Value.int .i64) sIntG rfl _ rfl _ _ rfl WL.heap.size _ (compK l u w) rfl (HI.out.2.2.1.alloc _) (w : Int) ⟨wr.heap.size, 0, none⟩ rfl (cell_alloc1 _ _ _) rfl hll (by omega) (le_alloc _ hsz) ?_; intro v' w3 hown hgr hat; obtain ⟨s9, c9, rfl⟩ := hown.shape (n := k + 1) (by rw [List.length_append, HI.out.2.1]; rfl); have hrc : RcM W2 B1 n sc sa (marksU l n L u w) (.slice la L.length lc) vs (compsK g l L) w3 := (HI.out.2.2.2.1.grown (grownBy_alloc wr _) (by simp)).grown hgr (fun q e => ⟨by have := (HI.out.2.2.1.lt q e).1; have := HM0.out.2.2.2; omega, fun hf => by have := (HI.out.2.2.1.lt q e).1; have := HM0.out.2.2.1 q hf; omega⟩); have hsz3 := hgr.size; rw [World.size_alloc] at hsz3; have hmark := hrc.mark hwn; rw [HX.out.1] at hmark; rw [← HX.out.2.1] at hown; obtain ⟨m0, m1, m2, m3⟩ := own_boolS hrc.m hrc.ml hwn; have hown2 := hown.setOther (p := ⟨blk sa, ofs sa + w, none⟩) (fun e => by have h8 : WL.heap.size ≤ blk sa := (hown.lt _ e).1; have h9 := hrc.mb (blk sa) (own_blkB hrc.m hrc.ml hwn); have := HM0.out.2.2.2; omega) (.bool true); have HO := Lib.hid (And.intro hown2 (And.intro hmark (by rw [World.size_setCell]; omega : WL.heap.size ≤ (w3.setCell ⟨blk sa, ofs sa + w, none⟩ (.bool true)).heap.size))); clear hown hown2 hgr hat hrc hmark m3)
                    go_roundw
                    case rel => exact ⟨w + 1, k + 1, m' + 1, s9, c9, by omega, by go_num, by go_num, rfl, by have := HI.out.1; omega, by rw [HX.out.2.1, List.length_append, ← HI.out.2.1]; rfl, HO.out⟩
                    case measure => simp [intOf]; omega
                  · have HX : Hid (marksU l n L u (w + 1) = marksU l n L u w ∧ compK l u (w + 1) = compK l u w) := Lib.hid ⟨marksU_no hwu, compK_no hwu⟩
                    have HBB : Hid (b1 = true → b2 = false) := Lib.hid (fun h1 => by
                      rw [Bool.eq_false_iff]; exact fun h2 => hwu (hiff.1 ⟨h1, h2⟩))
                    clear hiff hwu
                    cases b1
                    · clear x2 r2 i2 j2
                      go_wp2_with fail
                      go_roundw
                      case rel => exact ⟨w + 1, k, m', ka, kc, by omega, by go_num, rfl, rfl, by rw [HX.out.1, HX.out.2]; exact HI.out⟩
                      case measure => simp [intOf]; omega
                    · obtain rfl : b2 = false := HBB.out rfl
                      go_wp2_with fail
                      go_roundw
                      case rel => exact ⟨w + 1, k, m', ka, kc, by omega, by go_num, rfl, rfl, by rw [HX.out.1, HX.out.2]; exact HI.out⟩
                      case measure => simp [intOf]; omega
                · obtain rfl : n = w := by omega
                  clear hwn
                  have hk0 : 0 < k := by
                    rw [HI.out.2.1]
                    exact List.length_pos_of_mem (mem_compK.2 ⟨u, HUN.out, HNX.out.1, rfl⟩)
                  have hvl := HI.out.2.2.2.1.r.len
                  rw [show (compsK g l L).length = L.length by unfold compsK; rw [List.length_map]] at hvl
                  have hLn : L.length ≤ n := by
                    have h9 := Go.Kah.nodup_le L (List.range n) HL.out.1.nd (fun x hx => by rw [List.mem_range, ← HN.out.2]; exact (HL.out.1.inn x hx).2)
                    rw [List.length_range] at h9; exact h9
                  have hfo : ∀ q, (Value.slice ka k kc).ownBlock = some q → ¬ Foot (.slice la L.length lc) vs q := fun q e hf => by
                    have h9 := (HI.out.2.2.1.lt q e).1
                    have h10 := HM0.out.2.2.1 q hf
                    omega
                  have hrw := HI.out.2.2.1.mono HM0.out.2.2.2
                  have hfl : m' = (compsK g l (L ++ [u])).flatten.length := by
                    rw [compsK_snoc, List.flatten_append, List.length_append, ← HL.out.2.1, HI.out.1, HI.out.2.1, HN.out.2]; simp
                  have HO2 := Lib.hid (And.intro hfo (And.intro hrw (And.intro hvl (And.intro hfl hk0))))
                  have HLEN : Hid (vs.length + [(Value.slice ka k kc)].length < 5864062014805) := Lib.hid (by rw [List.length_singleton]; omega)
                  have hcl := (HI.out.2.2.2.1.r.out).alloc (.cells #[.slice ka k kc] 32)
                  have hsz := HI.out.2.2.2.1.b2
                  have HCL := Lib.hid hcl
                  clear hvl hfo hrw hcl hfl hLn hk0
                  go_wp2_with (at_builtin; refine wp_appendS (f := fun x : Value => x) sRowsG rfl rfl _ _ rfl B1 (.slice la L.length lc) vs rfl (.slice (some ⟨wr.heap.size, 0, none⟩) 1 1) [.slice ka k kc] rfl HCL.out (src_one (fun x : Value => x) (cell_alloc1 wr (.slice ka k kc) 32)) (fun y hy => by rw [List.mem_singleton.1 hy]; rfl) HLEN.out (Nat.le_refl _) (le_alloc _ hsz) ?_; intro v' w3 hown hgr hat; obtain ⟨s9, c9, rfl⟩ := hown.shape (n := L.length + 1) (by rw [List.length_append, HO2.out.2.2.1]; rfl); have HO := Lib.hid (And.intro hown (And.intro hgr hat)); clear hown hgr hat)
                  have hbA := (Below.refl wr.heap.size wr).alloc (Nat.le_refl _) (.cells #[.slice ka k kc] 32)
                  have hpush := (HI.out.2.2.2.1.below hbA).push HO.out.1 HO.out.2.1 HO.out.2.2 (HO2.out.2.1.below hbA) HO2.out.1
                  rw [marksU_all, show compsK g l L ++ [compK l u n] = compsK g l (L ++ [u]) by rw [compsK_snoc, HN.out.2]] at hpush
                  have HP2 := Lib.hid hpush
                  clear hbA hpush
                  go_roundw
                  case rel => exact ⟨L ++ [u], s9, c9, vs ++ [.slice ka k kc], m', by rw [List.length_append]; rfl, rfl, HL.out.1.snoc HNX.out, HO2.out.2.2.2.1, by rw [List.length_append]; exact HP2.out⟩
                  case measure => have h1 := HI.out.1; have h2 := HO2.out.2.2.2.2; simp [intOf]; omega
            · obtain rfl : n = v := by omega
              clear huv
              go_wp2_with fail
              clear hfin c0 c1
              obtain ⟨WL, hWL⟩ : ∃ Z, Z = wr := ⟨_, rfl⟩
              have HM0 : Hid (RcM W2 B1 n sc sa (marksU l n L u 0) (.slice la L.length lc) vs (compsK g l L) wr ∧ Below WL.heap.size WL wr ∧ (∀ q, Foot (.slice la L.length lc) vs q → q < WL.heap.size) ∧ B1 ≤ WL.heap.size) := Lib.hid ⟨by rw [marksU_zero]; exact HK.out, by rw [hWL]; exact Below.refl _ _, fun q hq => by rw [hWL]; exact (HK.out.r.foot kIIg q hq).2, by rw [hWL]; exact HK.out.b2⟩
              clear hWL
              go_loopw [8, 12, 13] (fun c lv x wr => ∃ (w k m' : Nat) (ka : Option Addr) (kc : Nat), w ≤ n ∧ x = .int .i64 (w : Int) ∧ c = .int .i64 (m' : Int) ∧ lv = .slice ka k kc ∧ Hid (m' = m + k ∧ k = (compK l u w).length ∧ OwnI wr WL.heap.size 3 (.slice ka k kc) (compK l u w) ∧ RcM W2 B1 n sc sa (marksU l n L u w) (.slice la L.length lc) vs (compsK g l L) wr ∧ WL.heap.size ≤ wr.heap.size)) (fun _ _ x _ => n - (intOf x).toNat)
              case atStart => exact ⟨0, 0, m, none, 0, by omega, rfl, rfl, rfl, rfl, rfl, Go.Dfl.Own.nil _ _ _ _, HM0.out.1, HM0.out.2.1.size⟩
              case round =>
                obtain ⟨w, k, m', ka, kc, hw, rfl, rfl, rfl, hh⟩ := hrel
                have HI := Lib.hid hh.out
                clear hh
                obtain ⟨c0, c1⟩ := H2.out.2.2.1.below HI.out.2.2.2.1.bel
                rw [HN.out.1] at c0
                by_cases hwn : w < n
                · have hwl : (w : Int) < (n : Int) := by omega
                  have hrl : (rowsR g).length = n := by rw [rowsR_len, HN.out.2]
                  obtain ⟨ta', tc', he, -, hr⟩ := rows_rdB (H2.out.2.2.2.below HI.out.2.2.2.1.bel)
                  rw [hrl] at he hr
                  simp only [Value.slice.injEq] at he
                  obtain ⟨rfl, -, rfl⟩ := he
                  obtain ⟨i1, r1, va, vc, e1, d1⟩ := hr u HUN.out
                  obtain ⟨i2, r2, wa, wc, e2, d2⟩ := hr w hwn
                  have l1 : (nth (rowsR g) u).length = n := by rw [rowsR_row HV.out.1 (by rw [HN.out.2]; exact HUN.out), HN.out.2]
                  have l2 : (nth (rowsR g) w).length = n := by rw [rowsR_row HV.out.1 (by rw [HN.out.2]; exact hwn), HN.out.2]
                  rw [l1] at e1 d1
                  rw [l2] at e2 d2
                  rw [e1] at r1
                  rw [e2] at r2
                  obtain ⟨j1, x1⟩ := d1 w hwn
                  obtain ⟨j2, x2⟩ := d2 u HUN.out
                  have t1 := rowsR_iff HV.out.1 (v := u) (w := w) (by rw [HN.out.2]; exact HUN.out) (by rw [HN.out.2]; exact hwn)
                  have t2 := rowsR_iff HV.out.1 (v := w) (w := u) (by rw [HN.out.2]; exact hwn) (by rw [HN.out.2]; exact HUN.out)
                  obtain ⟨b1, hb1⟩ : ∃ b, b = nth (nth (rowsR g) u) w := ⟨_, rfl⟩
                  obtain ⟨b2, hb2⟩ : ∃ b, b = nth (nth (rowsR g) w) u := ⟨_, rfl⟩
                  rw [← hb1] at x1 t1
                  rw [← hb2] at x2 t2
                  have hiff : (b1 = true ∧ b2 = true) ↔ hdN l (w : Int) = u := by
                    rw [t1, t2]
                    have kw := (HV.out.2.2.2.hd (v := w) (by rw [HN.out.2]; exact hwn)).2
                    have ku := (HV.out.2.2.2.hd (v := u) (by rw [HN.out.2]; exact HUN.out)).2
                    rw [HNX.out.1] at ku
                    constructor
                    · rintro ⟨p1, p2⟩
                      exact kw.unique (ku.congr ⟨p1, p2⟩)
                    · intro e
                      rw [e] at kw
                      exact ⟨kw.1.2, kw.1.1⟩
                  clear hr e1 e2 d1 d2 l1 l2 hb1 hb2 hrl t1 t2
                  by_cases hwu : hdN l (w : Int) = u
                  · obtain ⟨rfl, rfl⟩ := hiff.2 hwu
                    have hmk := (marksU_yes (n := n) (L := L) hwn hwu)
                    have hck := compK_yes hwu
                    have hkl : k ≤ n := by rw [HI.out.2.1]; exact Nat.le_trans (compK_le _ _ _) hw
                    have HX := Lib.hid (And.intro hmk (And.intro hck hkl))
                    have hm9 : wrap64 ((m' : Int) + 1) = (m' : Int) + 1 := by have := HI.out.1; unfold wrap64; omega
                    have hll : (compK l u w).length < 17592186044416 := by rw [← HI.out.2.1]; omega
                    have hsz := HI.out.2.2.2.2
                    clear hiff hwu hmk hck hkl
                    go_wp2_with (at_builtin; refine wp_append1at (f := Value.int .i64) sIntG rfl _ rfl _ _ rfl WL.heap.size _ (compK l u w) rfl (HI.out.2.2.1.alloc _) (w : Int) ⟨wr.heap.size, 0, none⟩ rfl (cell_alloc1 _ _ _) rfl hll (by omega) (le_alloc _ hsz) ?_; intro v' w3 hown hgr hat; obtain ⟨s9, c9, rfl⟩ := hown.shape (n := k + 1) (by rw [List.length_append, HI.out.2.1]; rfl); have hrc : RcM W2 B1 n sc sa (marksU l n L u w) (.slice la L.length lc) vs (compsK g l L) w3 := (HI.out.2.2.2.1.grown (grownBy_alloc wr _) (by simp)).grown hgr (fun q e => ⟨by have := (HI.out.2.2.1.lt q e).1; have := HM0.out.2.2.2; omega, fun hf => by have := (HI.out.2.2.1.lt q e).1; have := HM0.out.2.2.1 q hf; omega⟩); have hsz3 := hgr.size; rw [World.size_alloc] at hsz3; have hmark := hrc.mark hwn; rw [HX.out.1] at hmark; rw [← HX.out.2.1] at hown; obtain ⟨m0, m1, m2, m3⟩ := own_boolS hrc.m hrc.ml hwn; have hown2 := hown.setOther (p := ⟨blk sa, ofs sa + w, none⟩) (fun e => by have h8 : WL.heap.size ≤ blk sa := (hown.lt _ e).1; have h9 := hrc.mb (blk sa) (own_blkB hrc.m hrc.ml hwn); have := HM0.out.2.2.2; omega) (.bool true); have HO := Lib.hid (And.intro hown2 (And.intro hmark (by rw [World.size_setCell]; omega : WL.heap.size ≤ (w3.setCell ⟨blk sa, ofs sa + w, none⟩ (.bool true)).heap.size))); clear hown hown2 hgr hat hrc hmark m3)
                    go_roundw
                    case rel => exact ⟨w + 1, k + 1, m' + 1, s9, c9, by omega, by go_num, by go_num, rfl, by have := HI.out.1; omega, by rw [HX.out.2.1, List.length_append, ← HI.out.2.1]; rfl, HO.out⟩
                    case measure => simp [intOf]; omega
                  · have HX : Hid (marksU l n L u (w + 1) = marksU l n L u w ∧ compK l u (w + 1) = compK l u w) := Lib.hid ⟨marksU_no hwu, compK_no hwu⟩
                    have HBB : Hid (b1 = true → b2 = false) := Lib.hid (fun h1 => by
                      rw [Bool.eq_false_iff]; exact fun h2 => hwu (hiff.1 ⟨h1, h2⟩))
                    clear hiff hwu
                    cases b1
                    · clear x2 r2 i2 j2
                      go_wp2_with fail
                      go_roundw
                      case rel => exact ⟨w + 1, k, m', ka, kc, by omega, by go_num, rfl, rfl, by rw [HX.out.1, HX.out.2]; exact HI.out⟩
                      case measure => simp [intOf]; omega
                    · obtain rfl : b2 = false := HBB.out rfl
                      go_wp2_with fail
                      go_roundw
                      case rel => exact ⟨w + 1, k, m', ka, kc, by omega, by go_num, rfl, rfl, by rw [HX.out.1, HX.out.2]; exact HI.out⟩
                      case measure => simp [intOf]; omega
                · obtain rfl : n = w := by omega
                  clear hwn
                  have hk0 : 0 < k := by
                    rw [HI.out.2.1]
                    exact List.length_pos_of_mem (mem_compK.2 ⟨u, HUN.out, HNX.out.1, rfl⟩)
                  have hvl := HI.out.2.2.2.1.r.len
                  rw [show (compsK g l L).length = L.length by unfold compsK; rw [List.length_map]] at hvl
                  have hLn : L.length ≤ n := by
                    have h9 := Go.Kah.nodup_le L (List.range n) HL.out.1.nd (fun x hx => by rw [List.mem_range, ← HN.out.2]; exact (HL.out.1.inn x hx).2)
                    rw [List.length_range] at h9; exact h9
                  have hfo : ∀ q, (Value.slice ka k kc).ownBlock = some q → ¬ Foot (.slice la L.length lc) vs q := fun q e hf => by
                    have h9 := (HI.out.2.2.1.lt q e).1
                    have h10 := HM0.out.2.2.1 q hf
                    omega
                  have hrw := HI.out.2.2.1.mono HM0.out.2.2.2
                  have hfl : m' = (compsK g l (L ++ [u])).flatten.length := by
                    rw [compsK_snoc, List.flatten_append, List.length_append, ← HL.out.2.1, HI.out.1, HI.out.2.1, HN.out.2]; simp
                  have HO2 := Lib.hid (And.intro hfo (And.intro hrw (And.intro hvl (And.intro hfl hk0))))
                  have HLEN : Hid (vs.length + [(Value.slice ka k kc)].length < 5864062014805) := Lib.hid (by rw [List.length_singleton]; omega)
                  have hcl := (HI.out.2.2.2.1.r.out).alloc (.cells #[.slice ka k kc] 32)
                  have hsz := HI.out.2.2.2.1.b2
                  have HCL := Lib.hid hcl
                  clear hvl hfo hrw hcl hfl hLn hk0
                  go_wp2_with (at_builtin; refine wp_appendS (f := fun x : Value => x) sRowsG rfl rfl _ _ rfl B1 (.slice la L.length lc) vs rfl (.slice (some ⟨wr.heap.size, 0, none⟩) 1 1) [.slice ka k kc] rfl HCL.out (src_one (fun x : Value => x) (cell_alloc1 wr (.slice ka k kc) 32)) (fun y hy => by rw [List.mem_singleton.1 hy]; rfl) HLEN.out (Nat.le_refl _) (le_alloc _ hsz) ?_; intro v' w3 hown hgr hat; obtain ⟨s9, c9, rfl⟩ := hown.shape (n := L.length + 1) (by rw [List.length_append, HO2.out.2.2.1]; rfl); have HO := Lib.hid (And.intro hown (And.intro hgr hat)); clear hown hgr hat)
                  have hbA := (Below.refl wr.heap.size wr).alloc (Nat.le_refl _) (.cells #[.slice ka k kc] 32)
                  have hpush := (HI.out.2.2.2.1.below hbA).push HO.out.1 HO.out.2.1 HO.out.2.2 (HO2.out.2.1.below hbA) HO2.out.1
                  rw [marksU_all, show compsK g l L ++ [compK l u n] = compsK g l (L ++ [u]) by rw [compsK_snoc, HN.out.2]] at hpush
                  have HP2 := Lib.hid hpush
                  clear hbA hpush
                  go_roundw
                  case rel => exact ⟨L ++ [u], s9, c9, vs ++ [.slice ka k kc], m', by rw [List.length_append]; rfl, rfl, HL.out.1.snoc HNX.out, HO2.out.2.2.2.1, by rw [List.length_append]; exact HP2.out⟩
                  case measure => have h1 := HI.out.1; have h2 := HO2.out.2.2.2.2; simp [intOf]; omega
      · obtain rfl : m = n := by omega
        obtain ⟨of, hpa⟩ := HL.out.1.parts HV.out.2.2.2 (fun v hv => by
          false_or_by_contra
          rename_i hno
          have := HFL.out.2 ⟨v, by rw [← HN.out.2]; exact hv, hno⟩
          omega)
        have HPA := Lib.hid hpa
        clear hpa hml
        go_wp2_with fail
        go_ret2
        exact ⟨compsK g l L, of, _, vs, by rw [HV.out.2.1]; rfl, .inr ⟨HV.out.2.1, HPA.out⟩, HL.out.2.2.r.grid, H2.out.2.1.trans (HL.out.2.2.bel.mono H2.out.2.1.size)⟩
  · have q0 : (gCode g != 0) = true := by simpa using hc
    have HC := Lib.hid hc
    clear hc
    go_wp2_with fail
    go_ret2
    exact ⟨[], [], _, _, rfl, .inl ⟨HC.out, rfl, rfl⟩, grid_nil _, H1.out.2.1⟩
end Go.Proofs.Ytchmjgjagaaomaa
