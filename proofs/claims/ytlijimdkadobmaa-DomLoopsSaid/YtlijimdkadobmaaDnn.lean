/- Contract of nearest. -/
import Derived.Test.YtlijimdkadobmaaDnm
namespace Go.Proofs.Ytlijimdkadobmaa
open Go.RowKit Go.Dfl Go.Gra Go.Dm
theorem map_cast_nth0 {l : List Nat} {k : Nat} (h : k < l.length) : nth (l.map fun x : Nat => (x : Int)) k = ((nth l k : Nat) : Int) := by
  rw [nth_eq _ _ (by rw [List.length_map]; exact h), List.getElem_map, nth_eq _ _ h]
def NearR (C : Cx) (up : List Int) (ps : List Nat) (W : World) (e : Ending) (W' : World) : Prop := ∃ f : Int, e = .returned (.int .i64 f) ∧ Nca C up ps f ∧ Below W.heap.size W W'
set_option maxHeartbeats 1600000 in
set_option maxRecDepth 100000 in
theorem nearest_any (C : Cx) (hC : C.Ok) (u o p : Value) (up ol : List Int) (vs : List Value) (ll : List (List Int)) (W : World) (hu : Ints W u up) (ho : Ints W o ol) (hp : Grid (Value.int .i64) W p vs ll) (hup : UpOk C up) (hol : OL C ol) (v : Nat) (ps : List Nat) (hv : v < ll.length) (hps : nth ll v = ps.map fun x : Nat => (x : Int)) (hlt : ∀ x ∈ ps, x < C.n) :
    Calls Try.prog 45 #[.agg #[u, o, p], .int .i64 (v : Int)] W (NearR C up ps W) := by
  have hal := (Below.refl W.heap.size W).alloc (Nat.le_refl _) (.cells #[u, o, p] 56)
  obtain ⟨c0, c1, c2⟩ := box3 W u o p 56
  have hrow := hp.2.2 v hv
  rw [hps] at hrow
  have hvl : v < vs.length := by rw [hp.2.1]; exact hv
  obtain ⟨ra, rc, hrv, hrm, hri, hrc, hrb⟩ := (hrow.below hal).out1 sIntG
  obtain ⟨pa, pc, rfl, hpm, hpi, hpc, hpb⟩ := (hp.1.below hal).out1 sRowsG
  have HU := Lib.hid (And.intro (hu.below hal) (ho.below hal))
  obtain ⟨ua, uc, rfl, hum, hui, huc, hub⟩ := (hu.below hal).out1 sIntG
  have q0 := hpc v hvl
  rw [hrv] at q0
  have j0 := hpi .i64 (v : Int) (by omega) (by omega)
  rw [Int.toNat_natCast] at j0
  rw [List.length_map] at hrm hri hrc hrb q0
  have HA := Lib.hid hal
  have HC := Lib.hid (And.intro hC (And.intro hup (And.intro hol (And.intro hlt (hpb v hvl)))))
  clear hu ho hal hup hol hlt hC hp hrow hrv hps hpi hpc hpb hpm hvl hv
  go_enter Try.func45, Try.ntmps45
  go_wp2_with fail
  generalize hbs : W.heap.size = bs at *
  have HBS := Lib.hid hbs
  clear hbs
  generalize W.alloc (.cells #[.slice ua up.length uc, o, .slice pa vs.length pc] 56) = W1 at *
  have HC1 := Lib.hid (And.intro c0 (And.intro c1 c2))
  have lb := World.block_lt_of_cell? W1 ⟨bs, 0, none⟩ c0
  dsimp only at lb
  clear c0 c1 c2 q0 j0
  go_loopw [5, 14] (fun y x wr => ∃ (i : Nat) (f : Int), i ≤ ps.length ∧ x = .int .i64 (i : Int) ∧ y = .int .i64 f ∧ Hid (Nca C up (ps.take i) f ∧ Below W1.heap.size W1 wr)) (fun _ x _ => ps.length - (intOf x).toNat)
  case atStart => exact ⟨0, -1, by omega, rfl, rfl, by rw [List.take_zero]; exact Nca.nil _ _, Below.refl _ _⟩
  case round =>
    obtain ⟨i, f, hi, rfl, rfl, hh⟩ := hrel
    obtain ⟨h1, hb⟩ := hh.out
    have HN := Lib.hid (And.intro h1 hb)
    by_cases hlt : i < ps.length
    · have hil : (i : Int) < (ps.length : Int) := by omega
      obtain ⟨x, hx⟩ : ∃ x, x = nth ps i := ⟨_, rfl⟩
      have hxn : x < C.n := by rw [hx]; exact HC.out.2.2.2.1 _ (nth_mem _ _ hlt)
      have hxu : x < up.length := by rw [HC.out.2.1.len]; exact hxn
      have r1 : wr.cell? ⟨blk ra, ofs ra + i, none⟩ = some (.int .i64 (x : Int)) := by
        rw [hb.cell (p := ⟨blk ra, ofs ra + i, none⟩) (hrb i hlt), hrc i hlt, map_cast_nth0 hlt, ← hx]
      have i1 := hri .i64 (i : Int) (by omega) (by omega)
      rw [Int.toNat_natCast] at i1
      have r2 : wr.cell? ⟨blk ua, ofs ua + x, none⟩ = some (.int .i64 (nth up x)) := by
        rw [hb.cell (p := ⟨blk ua, ofs ua + x, none⟩) (hub x hxu), huc x hxu]
      have i2 := hui .i64 (x : Int) (by omega) (by omega)
      rw [Int.toNat_natCast] at i2
      have d0 : wr.cell? ⟨bs, 0, none⟩ = some (.slice ua up.length uc) := by rw [hb.cell (p := ⟨bs, 0, none⟩) lb]; exact HC1.out.1
      have d1 : wr.cell? ⟨bs, 1, none⟩ = some o := by rw [hb.cell (p := ⟨bs, 1, none⟩) lb]; exact HC1.out.2.1
      have d2 : wr.cell? ⟨bs, 2, none⟩ = some (.slice pa vs.length pc) := by rw [hb.cell (p := ⟨bs, 2, none⟩) lb]; exact HC1.out.2.2
      obtain ⟨z, hz⟩ : ∃ z, z = nth up x := ⟨_, rfl⟩
      rw [← hz] at r2
      have hsn := take_snoc ps i hlt
      rw [← hx] at hsn
      by_cases hz0 : z < 0
      · have hbz : decide (z < 0) = true := decide_eq_true hz0
        have HR := Lib.hid (show Nca C up (ps.take (i + 1)) f by rw [hsn]; exact h1.skip fun hp => by have := hp.2; omega)
        clear hx hz hsn hh h1 hb
        go_wp2_with fail
        go_roundw
        case rel => exact ⟨i + 1, f, by omega, by go_num, rfl, HR.out, HN.out.2⟩
        case measure => simp [intOf]; omega
      · have hbz : decide (z < 0) = false := decide_eq_false hz0
        have hpx : Pr C up x := ⟨hxn, by omega⟩
        by_cases hf0 : f < 0
        · have hbf : decide (f < 0) = true := decide_eq_true hf0
          have HR := Lib.hid (show Nca C up (ps.take (i + 1)) (x : Int) by
            rw [hsn]
            have hf : f = -1 := by
              rcases h1 with ⟨rfl, -⟩ | ⟨y, rfl, -⟩
              · rfl
              · omega
            subst hf
            exact h1.first hpx)
          clear hx hz hsn hh h1 hb
          go_wp2_with fail
          go_roundw
          case rel => exact ⟨i + 1, x, by omega, by go_num, rfl, HR.out, HN.out.2⟩
          case measure => simp [intOf]; omega
        · have hbf : decide (f < 0) = false := decide_eq_false hf0
          obtain ⟨y, rfl⟩ : ∃ y : Nat, f = (y : Int) := ⟨f.toNat, by omega⟩
          have hpy : Pr C up y := by
            rcases h1 with ⟨e, -⟩ | ⟨y', e, h2, -⟩
            · omega
            · obtain rfl : y = y' := by omega
              exact h2
          have HM := Lib.hid (meet_any C HC.out.1 (.slice ua up.length uc) o (.slice pa vs.length pc) up ol wr (HU.out.1.below hb) (HU.out.2.below hb) HC.out.2.1 HC.out.2.2.1 y x hpy hpx)
          have HR := Lib.hid (fun c (hm : MeetIs C up y x c) => show Nca C up (ps.take (i + 1)) (c : Int) by rw [hsn]; exact h1.meet hpx hm)
          clear hx hz hsn hh h1 hb hpx hpy
          go_wp2_with fail
          refine HM.out.mono ?_
          rintro e W2 ⟨c, rfl, hm, hb2⟩
          have HQ := Lib.hid (And.intro (HR.out c hm) (HN.out.2.trans (hb2.mono HN.out.2.size)))
          clear hm hb2
          go_wp2_with fail
          go_roundw
          case rel => exact ⟨i + 1, c, by omega, by go_num, rfl, HQ.out⟩
          case measure => simp [intOf]; omega
    · obtain rfl : i = ps.length := by omega
      clear hh h1 hb
      go_wp2_with fail
      go_ret
      refine ⟨f, rfl, ?_, by rw [HBS.out]; exact HA.out.trans (HN.out.2.mono (Nat.le_of_lt lb))⟩
      have := HN.out.1
      rw [List.take_length] at this
      exact this
end Go.Proofs.Ytlijimdkadobmaa
