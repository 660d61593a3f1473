/- Contracts of meet and nearest. -/
import Derived.Test.YtlijimdkadobmaaDna
namespace Go.Proofs.Ytlijimdkadobmaa
open Go.RowKit Go.Dfl Go.Gra Go.Dm
/-- The positions in the postorder. -/
structure OL (C : Cx) (ol : List Int) : Prop where
  len : ol.length = C.n
  at' : ∀ v, C.S v → nth ol v = (C.ord v : Int)
  no : ∀ v, v < C.n → ¬ C.S v → nth ol v = -1
def MeetR (C : Cx) (up : List Int) (a b : Nat) (W : World) (e : Ending) (W' : World) : Prop := ∃ c : Nat, e = .returned (.int .i64 (c : Int)) ∧ MeetIs C up a b c ∧ Below W.heap.size W W'
theorem box3 (W : World) (u o p : Value) (t : TypeId) : (W.alloc (.cells #[u, o, p] t)).cell? ⟨W.heap.size, 0, none⟩ = some u ∧ (W.alloc (.cells #[u, o, p] t)).cell? ⟨W.heap.size, 1, none⟩ = some o ∧ (W.alloc (.cells #[u, o, p] t)).cell? ⟨W.heap.size, 2, none⟩ = some p :=
  ⟨cells_new (cs := [u, o, p]) rfl 0 _ rfl, cells_new (cs := [u, o, p]) rfl 1 _ rfl, cells_new (cs := [u, o, p]) rfl 2 _ rfl⟩
set_option maxHeartbeats 1600000 in
set_option maxRecDepth 100000 in
theorem meet_any (C : Cx) (hC : C.Ok) (u o p : Value) (up ol : List Int) (W : World) (hu : Ints W u up) (ho : Ints W o ol) (hup : UpOk C up) (hol : OL C ol) (a b : Nat) (ha : Pr C up a) (hb : Pr C up b) :
    Calls Try.prog 55 #[.agg #[u, o, p], .int .i64 (a : Int), .int .i64 (b : Int)] W (MeetR C up a b W) := by
  have hal := (Below.refl W.heap.size W).alloc (Nat.le_refl _) (.cells #[u, o, p] 56)
  have hu1 := hu.below hal
  have ho1 := ho.below hal
  obtain ⟨c0, c1, -⟩ := box3 W u o p 56
  obtain ⟨ua, uc, rfl, hum, hui, huc, -⟩ := hu1.out1 sIntG
  obtain ⟨oa, oc, rfl, hom, hoi, hoc, -⟩ := ho1.out1 sIntG
  have HA := Lib.hid hal
  have HC := Lib.hid (And.intro hC (And.intro hup (And.intro hol (And.intro hum hom))))
  have HP := Lib.hid (And.intro ha hb)
  clear hu1 ho1 hu ho hal hup hol ha hb hC hum hom
  go_enter Try.func55, Try.ntmps55
  go_wp2_with fail
  generalize hbs : W.heap.size = bs at *
  have HBS := Lib.hid hbs
  clear hbs
  generalize W.alloc (.cells #[.slice ua up.length uc, .slice oa ol.length oc, p] 56) = W1 at *
  go_loopw [1, 2] (fun x y wr => ∃ a' b' : Nat, x = .int .i64 (a' : Int) ∧ y = .int .i64 (b' : Int) ∧ Hid (Pr C up a' ∧ Pr C up b' ∧ ∀ c, MeetIs C up a' b' c → MeetIs C up a b c) ∧ Qt W1 wr) (fun x y _ => 2 * C.ord C.r - C.ord (intOf x).toNat - C.ord (intOf y).toNat)
  case atStart => exact ⟨a, b, rfl, rfl, ⟨HP.out.1, HP.out.2, fun c h => h⟩, Qt.refl _⟩
  case round =>
    obtain ⟨a', b', rfl, rfl, hh, nw, rfl⟩ := hrel
    obtain ⟨p1, p2, p3⟩ := hh.out
    have HM := Lib.hid p3
    by_cases hab : a' = b'
    · subst hab
      have HR := Lib.hid p1
      clear p1 p2 p3 hh
      go_wp2_with fail
      go_ret
      exact ⟨a', rfl, HM.out _ (MeetIs.self HR.out), by rw [HBS.out]; exact below_drewN HA.out _⟩
    · have hne : ((a' : Int) != (b' : Int)) = true := by simp; omega
      have hS1 := p1.S HC.out.1 HC.out.2.1
      have hS2 := p2.S HC.out.1 HC.out.2.1
      have hol := HC.out.2.2.1
      have hul := HC.out.2.1.len
      have la' : a' < up.length := by rw [hul]; exact p1.1
      have lb' : b' < up.length := by rw [hul]; exact p2.1
      have la : a' < ol.length := by rw [hol.len]; exact p1.1
      have lb : b' < ol.length := by rw [hol.len]; exact p2.1
      have q1 := hoc a' la
      have q2 := hoc b' lb
      rw [hol.at' a' hS1] at q1
      rw [hol.at' b' hS2] at q2
      have i1 := hoi .i64 (a' : Int) (by omega) (by omega)
      have i2 := hoi .i64 (b' : Int) (by omega) (by omega)
      rw [Int.toNat_natCast] at i1 i2
      obtain ⟨x, hx⟩ : ∃ x, x = C.ord a' := ⟨_, rfl⟩
      obtain ⟨y, hy⟩ : ∃ y, y = C.ord b' := ⟨_, rfl⟩
      rw [← hx] at q1
      rw [← hy] at q2
      have hne2 : x ≠ y := fun e => hab (HC.out.1.inj a' b' hS1 hS2 (by rw [← hx, ← hy]; exact e))
      have t1 := HC.out.1.top a' hS1
      have t2 := HC.out.1.top b' hS2
      by_cases hlt : x < y
      · have hr : a' ≠ C.r := fun e => by rw [← e] at t2; omega
        obtain ⟨u', e1, e2, e3⟩ := p1.above HC.out.2.1 hr
        have q3 := huc a' la'
        have i3 := hui .i64 (a' : Int) (by omega) (by omega)
        rw [Int.toNat_natCast] at i3
        rw [e1] at q3
        have hlt' : (x : Int) < (y : Int) := by omega
        have hbl : decide ((x : Int) < (y : Int)) = true := decide_eq_true hlt'
        have t3 := HC.out.1.top u' (e2.S HC.out.1 HC.out.2.1)
        have HN := Lib.hid (And.intro e2 (And.intro p2 (And.intro (fun c h => p3 c (MeetIs.left HC.out.2.1 p1 p2 (by omega) hr e1 h)) (And.intro t3 (And.intro e3 (And.intro hx (And.intro t1 (And.intro t2 hy))))))))
        clear p1 p2 p3 hh hS1 hS2 hol hul la lb hx hy hne2 t1 t2 hr e1 e2 e3 t3 hab la' lb'
        go_wp2_with fail
        go_quiet (fail)
        go_wp2_with fail
        go_roundw
        case rel => exact ⟨u', b', rfl, rfl, ⟨HN.out.1, HN.out.2.1, HN.out.2.2.1⟩, (by first | exact Qt.refl _ | exact Qt.drewN _ _ | exact (Qt.drewN _ _).trans (Qt.drewN _ _) | exact ((Qt.drewN _ _).trans (Qt.drewN _ _)).trans (Qt.drewN _ _) | exact Qt.drew _ | exact (Qt.drewN _ _).trans (Qt.drew _))⟩
        case measure =>
          obtain ⟨-, -, -, h1, h2, h3, h4, h5, h6⟩ := HN.out
          simp only [intOf, Int.toNat_natCast]; omega
      · have hlt2 : y < x := by omega
        have hr : b' ≠ C.r := fun e => by rw [← e] at t1; omega
        obtain ⟨u', e1, e2, e3⟩ := p2.above HC.out.2.1 hr
        have q3 := huc b' lb'
        have i3 := hui .i64 (b' : Int) (by omega) (by omega)
        rw [Int.toNat_natCast] at i3
        rw [e1] at q3
        have hlt' : ¬ (x : Int) < (y : Int) := by omega
        have hbl : decide ((x : Int) < (y : Int)) = false := decide_eq_false hlt'
        have t3 := HC.out.1.top u' (e2.S HC.out.1 HC.out.2.1)
        have HN := Lib.hid (And.intro e2 (And.intro p1 (And.intro (fun c h => p3 c (MeetIs.left HC.out.2.1 p2 p1 (by omega) hr e1 (MeetIs.symm h)).symm) (And.intro t3 (And.intro e3 (And.intro hx (And.intro t1 (And.intro t2 hy))))))))
        clear p1 p2 p3 hh hS1 hS2 hol hul la lb hx hy hne2 t1 t2 hr e1 e2 e3 t3 hab la' lb' hlt2
        go_wp2_with fail
        go_quiet (fail)
        go_wp2_with fail
        go_roundw
        case rel => exact ⟨a', u', rfl, rfl, ⟨HN.out.2.1, HN.out.1, HN.out.2.2.1⟩, (by first | exact Qt.refl _ | exact Qt.drewN _ _ | exact (Qt.drewN _ _).trans (Qt.drewN _ _) | exact ((Qt.drewN _ _).trans (Qt.drewN _ _)).trans (Qt.drewN _ _) | exact Qt.drew _ | exact (Qt.drewN _ _).trans (Qt.drew _))⟩
        case measure =>
          obtain ⟨-, -, -, h1, h2, h3, h4, h5, h6⟩ := HN.out
          simp only [intOf, Int.toNat_natCast]; omega
end Go.Proofs.Ytlijimdkadobmaa
