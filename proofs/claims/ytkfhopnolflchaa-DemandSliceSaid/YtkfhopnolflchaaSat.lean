/- Contracts of Within, satisfied. -/
import Derived.Test.YtkfhopnolflchaaSlv
import Derived.Test.YtkfhopnolflchaaWin
namespace Go.Proofs.Ytkfhopnolflchaa
open Go.RowKit Go.Dfl Go.And

set_option maxHeartbeats 1600000 in
theorem WithinP_any (u1 u2 v1 v2 : Value) (a1 a2 b1 b2 : List (List Int)) (W : World) (hu : PtsIn W u1 u2 a1 a2) (hv : PtsIn W v1 v2 b1 b2) (r1 : InR a1) (r2 : InR a2) (r3 : InR b1) (r4 : InR b2) (l1 : ∀ i, i < b1.length → (nth b1 i).length ≤ 1000000) (l2 : ∀ i, i < b2.length → (nth b2 i).length ≤ 1000000) :
    Calls Try.prog 17 #[.agg #[u1, u2], .agg #[v1, v2]] W fun e W' => e = .returned (.bool (winB a1 b1 && winB a2 b2)) ∧ Below W.heap.size W W' := by
  obtain ⟨⟨us1, hu1⟩, us2, hu2⟩ := hu
  obtain ⟨⟨vs1, hv1⟩, vs2, hv2⟩ := hv
  have hb0 : Below W.heap.size W _ := ((Below.refl W.heap.size W).alloc (Nat.le_refl _) (.cells #[u1, u2] 41)).alloc (by simp) (.cells #[v1, v2] 41)
  have HB := Lib.hid hb0
  have HU := Lib.hid (And.intro hu1 (And.intro hu2 (And.intro hv1 (And.intro hv2 (And.intro r1 (And.intro r2 (And.intro r3 (And.intro r4 (And.intro l1 l2)))))))))
  have o1 : u1.oneCell' = true := by obtain ⟨a, c, e, -⟩ := hu1.1.out1 sInt2; rw [e]; rfl
  have o2 : u2.oneCell' = true := by obtain ⟨a, c, e, -⟩ := hu2.1.out1 sInt2; rw [e]; rfl
  have o3 : v1.oneCell' = true := by obtain ⟨a, c, e, -⟩ := hv1.1.out1 sInt2; rw [e]; rfl
  have o4 : v2.oneCell' = true := by obtain ⟨a, c, e, -⟩ := hv2.1.out1 sInt2; rw [e]; rfl
  obtain ⟨ua1, uc1, e1, -⟩ := hu1.1.out1 sInt2
  obtain ⟨ua2, uc2, e2, -⟩ := hu2.1.out1 sInt2
  obtain ⟨va1, vc1, e3, -⟩ := hv1.1.out1 sInt2
  obtain ⟨va2, vc2, e4, -⟩ := hv2.1.out1 sInt2
  subst e1 e2 e3 e4
  have hc2 := cells_new (W := W) (cs := [.slice ua1 us1.length uc1, .slice ua2 us2.length uc2]) (t := 41) rfl
  have hc3 := cells_new (W := W.alloc (.cells #[.slice ua1 us1.length uc1, .slice ua2 us2.length uc2] 41)) (cs := [.slice va1 vs1.length vc1, .slice va2 vs2.length vc2]) (t := 41) rfl
  have gB := grownBy_alloc (W.alloc (.cells #[.slice ua1 us1.length uc1, .slice ua2 us2.length uc2] 41)) (.cells #[.slice va1 vs1.length vc1, .slice va2 vs2.length vc2] 41)
  have k1 := gB.cell (hc2 1 _ rfl) (by simp)
  have k2 := hc3 1 _ rfl
  have HK := Lib.hid (And.intro k1 k2)
  clear hu1 hu2 hv1 hv2 r1 r2 r3 r4 l1 l2 hb0 k1 k2 gB hc2 hc3 o1 o2 o3 o4
  go_enter Try.func17, Try.ntmps17
  go_wp2_with fail
  refine (within_any _ _ us1 vs1 a1 b1 _ (HU.out.1.below HB.out) (HU.out.2.2.1.below HB.out) HU.out.2.2.2.2.1 HU.out.2.2.2.2.2.2.1 HU.out.2.2.2.2.2.2.2.2.1).mono ?_
  rintro e W1 ⟨rfl, q1⟩
  have b1' := HB.out.trans (q1.mono HB.out.size)
  have k1 : W1.cell? ⟨W.heap.size, 1, none⟩ = some (.slice ua2 us2.length uc2) := (grownBy_below q1).cell HK.out.1 (by simp)
  have k2 : W1.cell? ⟨W.heap.size + 1, 1, none⟩ = some (.slice va2 vs2.length vc2) := (grownBy_below q1).cell (by simp) (by simp)
  have H1 := Lib.hid b1'
  clear b1' q1
  cases hw : winB a1 b1
  · go_wp2_with fail
    go_ret
    exact ⟨ret_bool (by simp [hw]), H1.out⟩
  · go_wp2_with fail
    refine (within_any _ _ us2 vs2 a2 b2 _ (HU.out.2.1.below H1.out) (HU.out.2.2.2.1.below H1.out) HU.out.2.2.2.2.2.1 HU.out.2.2.2.2.2.2.2.1 HU.out.2.2.2.2.2.2.2.2.2).mono ?_
    rintro e W2 ⟨rfl, q2⟩
    have H2 := Lib.hid (H1.out.trans (q2.mono H1.out.size))
    clear q2 k1 k2
    go_wp2_with fail
    go_ret
    exact ⟨ret_bool (by simp [hw]), H2.out⟩

/-- The sets in memory. -/
structure SetsIn (N : Nat) (W : World) (v : Value) (xs : List Value) (p : Nat → Nat → Bool) : Prop where
  lst : Lst (fun x : Value => x) W v xs
  len : xs.length = N
  mean : ∀ i, i < N → IsS (fun _ => 0) W (nth xs i) (p i)
theorem SetsIn.below {N : Nat} {W W' : World} {v : Value} {xs : List Value} {p : Nat → Nat → Bool} (h : SetsIn N W v xs p) (hb : Below W.heap.size W W') : SetsIn N W' v xs p := ⟨h.lst.below hb, h.len, fun i hi => (h.mean i hi).bel hb⟩

/-- What satisfied reads. -/
def SatIn (W : World) (bs bc : Nat) (S : Syst) (cv : Value) (c : C) (setv : Value) (xa : Option Addr) (xs : List Value) : Prop :=
  BoxC W bc c.k c.a c.b c.f setv ∧ (W.cell? ⟨bs, 0, none⟩ = some (.int .i64 (S.vars : Int)) ∧ W.cell? ⟨bs, 1, none⟩ = some (.int .i64 (S.sites : Int)) ∧ W.cell? ⟨bs, 2, none⟩ = some (.int .i64 (S.fields : Int)) ∧ W.cell? ⟨bs, 3, none⟩ = some cv) ∧ (∀ i, i < S.N → W.cell? ⟨blk xa, ofs xa + i, none⟩ = some (nth xs i)) ∧ True
theorem SatIn.grown {W W' : World} {bs bc : Nat} {S : Syst} {cv : Value} {c : C} {setv : Value} {xa : Option Addr} {xs : List Value} (h : SatIn W bs bc S cv c setv xa xs) (hg : W.grownBy W' none) : SatIn W' bs bc S cv c setv xa xs :=
  ⟨h.1.grown hg (by simp), ⟨hg.cell h.2.1.1 (by simp), hg.cell h.2.1.2.1 (by simp), hg.cell h.2.1.2.2.1 (by simp), hg.cell h.2.1.2.2.2 (by simp)⟩, fun i hi => hg.cell (h.2.2.1 i hi) (by simp), trivial⟩

theorem satIn_new (W : World) (S : Syst) (cv : Value) (k a b f : Nat) (setv : Value) (cs : List Nat) {xa : Option Addr} {xs : List Value} (h : ∀ i, i < S.N → W.cell? ⟨blk xa, ofs xa + i, none⟩ = some (nth xs i)) :
    SatIn ((W.alloc (.cells #[.int .i64 (S.vars : Int), .int .i64 S.sites, .int .i64 S.fields, cv] 24)).alloc (.cells #[.int .i64 (k : Int), .int .i64 a, .int .i64 b, .int .i64 f, setv] 37)) W.heap.size (W.heap.size + 1) S cv ⟨k, a, b, f, cs⟩ setv xa xs := by
  have gA := grownBy_alloc W (.cells #[.int .i64 (S.vars : Int), .int .i64 S.sites, .int .i64 S.fields, cv] 24)
  have gB := grownBy_alloc (W.alloc (.cells #[.int .i64 (S.vars : Int), .int .i64 S.sites, .int .i64 S.fields, cv] 24)) (.cells #[.int .i64 (k : Int), .int .i64 a, .int .i64 b, .int .i64 f, setv] 37)
  have hn := cells_new (W := W) (cs := [.int .i64 (S.vars : Int), .int .i64 S.sites, .int .i64 S.fields, cv]) (t := 24) rfl
  refine ⟨?_, ⟨gB.cell (hn 0 _ rfl) (by simp), gB.cell (hn 1 _ rfl) (by simp), gB.cell (hn 2 _ rfl) (by simp), gB.cell (hn 3 _ rfl) (by simp)⟩, fun i hi => gB.cell (gA.cell (h i hi) (by simp)) (by simp), trivial⟩
  have := BoxC.new (W.alloc (.cells #[.int .i64 (S.vars : Int), .int .i64 S.sites, .int .i64 S.fields, cv] 24)) k a b f setv 37
  simpa using this
theorem below2' (W : World) (a b : Obj) : Below W.heap.size W ((W.alloc a).alloc b) := ((Below.refl W.heap.size W).alloc (Nat.le_refl _) a).alloc (by simp) b

end Go.Proofs.Ytkfhopnolflchaa
