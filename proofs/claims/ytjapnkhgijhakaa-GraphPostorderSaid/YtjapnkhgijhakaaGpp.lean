/- Plain: the path that both searches choose. -/
import Derived.Test.YtjapnkhgijhakaaGdb
import Derived.Test.YtjapnkhgijhakaaGrv
namespace Go.Gra
open Go.Dfl (nth nth_mem mem_nth nth_eq nth_ext nth_set)
/-- The next node: the first successor that is nearer by 1. -/
def nxt (es : List (Int × Int)) (far : List Int) (v : Nat) : Nat := ((suc es v).find? fun w => decide (nth far w = nth far v - 1)).getD 0
/-- The path of k steps. -/
def pathL (es : List (Int × Int)) (far : List Int) : Nat → Nat → List Nat
  | 0, v => [v]
  | k + 1, v => v :: pathL es far k (nxt es far v)
theorem mem_rev {es r : List (Int × Int)} (h : RevOf es r) {a b : Int} : (a, b) ∈ r ↔ (b, a) ∈ es := by
  rw [h.2.2, List.mem_map]
  constructor
  · rintro ⟨e, he, h2⟩
    obtain ⟨x, y⟩ := e
    simp [swp] at h2
    rw [← h2.1, ← h2.2]; exact he
  · intro he; exact ⟨_, he, rfl⟩
theorem VG.rev {g : G} (h : VG g) {r : List (Int × Int)} (hr : RevOf g.es r) : VG ⟨g.n, r⟩ :=
  ⟨h.n0, h.n1, by show r.length ≤ _; rw [hr.1]; exact h.len, fun e he => by
    obtain ⟨a, b⟩ := e
    have := h.inn _ ((mem_rev hr).1 he)
    exact ⟨this.2, this.1⟩, hr.2.1⟩
theorem mem_suc_rev {g : G} (h : VG g) {r : List (Int × Int)} (hr : RevOf g.es r) {u w : Nat} : w ∈ suc r u ↔ u ∈ suc g.es w := by
  rw [mem_suc, mem_suc]
  constructor
  · rintro ⟨⟨a, b⟩, he, h1, h2⟩
    dsimp only at h1 h2
    have h3 := (mem_rev hr).1 he
    have h4 := h.inn _ h3
    dsimp only at h4
    exact ⟨_, h3, by show b = _; omega, by show a.toNat = u; omega⟩
  · rintro ⟨⟨a, b⟩, he, h1, h2⟩
    dsimp only at h1 h2
    have h4 := h.inn _ he
    dsimp only at h4
    exact ⟨_, (mem_rev hr).2 he, by show b = _; omega, by show a.toNat = w; omega⟩
/-- The distances to b. -/
def farL (n : Int) (r : List (Int × Int)) (b : Nat) : List Int := distL ⟨n, r⟩ [(b : Int)]
theorem nxt_spec {g : G} (h : VG g) {r : List (Int × Int)} (hr : RevOf g.es r) {b : Nat} (hb : nodeB g.n b = true) {v k : Nat} (hv : v < g.n.toNat) (hk : nth (farL g.n r b) v = (k : Int) + 1) :
    nxt g.es (farL g.n r b) v ∈ suc g.es v ∧ nth (farL g.n r b) (nxt g.es (farL g.n r b) v) = k ∧ nxt g.es (farL g.n r b) v < g.n.toNat := by
  have h1 := distL_step (h.rev hr) (r := b) hb (w := v) hv (by unfold farL at hk; omega)
  have hex : ∃ w, w ∈ suc g.es v ∧ nth (farL g.n r b) w = nth (farL g.n r b) v - 1 := by
    rcases h1 with ⟨h2, -⟩ | ⟨u, h2, h3, h4, h5⟩
    · unfold farL at hk; omega
    · exact ⟨u, (mem_suc_rev h hr).1 h3, by unfold farL; omega⟩
  unfold nxt
  cases e : (suc g.es v).find? fun w => decide (nth (farL g.n r b) w = nth (farL g.n r b) v - 1) with
  | none =>
    obtain ⟨w, hw, hw2⟩ := hex
    have := List.find?_eq_none.1 e w hw
    simp [hw2] at this
  | some w =>
    have hm := List.mem_of_find?_eq_some e
    have hp := List.find?_some e
    rw [decide_eq_true_eq] at hp
    exact ⟨hm, by show nth _ w = _; omega, suc_node h hm⟩
theorem far_zero {g : G} (h : VG g) {r : List (Int × Int)} (hr : RevOf g.es r) {b : Nat} (hb : nodeB g.n b = true) {v : Nat} (hv : v < g.n.toNat) (h0 : 0 ≤ nth (farL g.n r b) v) : nth (farL g.n r b) v = 0 ↔ v = b := by
  constructor
  · intro hz
    rcases distL_step (h.rev hr) (r := b) hb (w := v) hv h0 with ⟨-, h2⟩ | ⟨u, -, -, h4, h5⟩
    · exact h2
    · unfold farL at hz; omega
  · rintro rfl
    have hn : v < g.n.toNat := hv
    have hcb := dSl_coh (n := g.n) (l := [(v : Int)]) (coh_start g.n.toNat)
    have hold : ∀ (k i : Nat) (s : List Int × List Nat), Coh g.n.toNat s → v ∈ s.2 → nth (dG r k i s).1 v = nth s.1 v := by
      intro k
      induction k with
      | zero => intro i s _ _; rfl
      | succ k ih =>
        intro i s hs hvs
        unfold dG
        split
        · rename_i hlt
          have hq := nth_mem _ _ hlt
          have hd := (hs.iff _ (hs.mem _ hq)).2 hq
          have hin : ∀ w ∈ suc r (nth s.2 i), w < g.n.toNat := fun w hw => suc_node (h.rev hr) hw
          obtain ⟨h1, h2⟩ := dvsl_coh (d := nth s.1 (nth s.2 i) + 1) (by omega) (l := suc r (nth s.2 i)) hs hin
          rw [ih _ _ h1 (by obtain ⟨c, hc⟩ := dvsl_prefix (nth s.1 (nth s.2 i) + 1) (suc r (nth s.2 i)) s; rw [← hc]; exact List.mem_append.2 (.inl hvs)), dvsl_old (by omega) hs hvs hin]
        · rfl
    have hnn : (g.n.toNat : Int) = g.n := Int.toNat_of_nonneg h.n0
    have hs : dS g.n [(v : Int)] = root0 g.n.toNat v := by rw [← root0_dS hn, hnn]
    unfold farL distL
    dsimp only
    rw [hs, hold _ _ _ (root0_coh hn).coh (by simp [root0])]
    simp [root0, nth_set, hn]
/-- What Path returns. -/
inductive PathIs (g : G) (a b : Int) : Bool → List Nat → Prop
  | bad (h : ¬ (gCode g = 0 ∧ nodeB g.n a = true ∧ nodeB g.n b = true)) : PathIs g a b false []
  | no (h : gCode g = 0 ∧ nodeB g.n a = true ∧ nodeB g.n b = true) (r : List (Int × Int)) (hr : RevOf g.es r) (hn : nth (farL g.n r b.toNat) a.toNat < 0) : PathIs g a b false []
  | yes (h : gCode g = 0 ∧ nodeB g.n a = true ∧ nodeB g.n b = true) (r : List (Int × Int)) (hr : RevOf g.es r) (k : Nat) (hk : nth (farL g.n r b.toNat) a.toNat = k) : PathIs g a b true (pathL g.es (farL g.n r b.toNat) k a.toNat)
theorem RevOf.unique {es l m : List (Int × Int)} (h : RevOf es l) (k : RevOf es m) : l = m := SortOf.unique h.2 k.2
theorem PathIs.unique {g : G} {a b : Int} {o p : Bool} {l m : List Nat} (h : PathIs g a b o l) (k : PathIs g a b p m) : o = p ∧ l = m := by
  cases h with
  | bad h =>
    cases k with
    | bad _ => exact ⟨rfl, rfl⟩
    | no h2 => exact absurd h2 h
    | yes h2 => exact absurd h2 h
  | no h r hr hn =>
    cases k with
    | bad h2 => exact absurd h h2
    | no => exact ⟨rfl, rfl⟩
    | yes h2 r2 hr2 k hk => rw [hr.unique hr2] at hn; omega
  | yes h r hr j hj =>
    cases k with
    | bad h2 => exact absurd h h2
    | no h2 r2 hr2 hn => rw [hr.unique hr2] at hj; omega
    | yes h2 r2 hr2 k2 hk2 =>
      obtain rfl := hr.unique hr2
      obtain rfl : j = k2 := by omega
      exact ⟨rfl, rfl⟩
end Go.Gra
