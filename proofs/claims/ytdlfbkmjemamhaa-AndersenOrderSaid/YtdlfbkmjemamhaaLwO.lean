/- AndersenOrder: for any system with at most 40 variables, 12 sites and 5 fields, with the constraints in the opposite order and the first of them once more the least solution is the same. Conditions: none. -/
import Derived.Test.YtdlfbkmjemamhaaLwB
namespace Go.Proofs.Ytdlfbkmjemamhaa
open Go.ChangeShapes Go.WideShapes Go.ChangeAt Go.RowKit Go.Dfl Go.And

/-- The constraints as they lie in memory, with the cells. -/
theorem ConsIn.raw {W : World} {v : Value} {l : List R} (h : ConsIn W v l) : ∃ (a : Option Addr) (c : Nat) (rs : List RC), v = .slice a l.length c ∧ rs.length = l.length ∧
    (∀ i, i < l.length → (nth rs i).k = (nth l i).k ∧ (nth rs i).a = (nth l i).a ∧ (nth rs i).b = (nth l i).b ∧ (nth rs i).f = (nth l i).f ∧ Ints W (nth rs i).set (nth l i).s) ∧
    (∀ x : Int, 0 ≤ x → x < l.length → ∀ W', (Instr.indexAt 22 (.slice a l.length c) (.int .i64 x)).run Try.prog W' = .ok (.pointer (some ⟨blk a, ofs a + x.toNat * 5, none⟩)) W') ∧
    ∀ j, j < l.length → (W.cell? ⟨blk a, ofs a + j * 5, none⟩ = some (.int .i64 (nth rs j).k) ∧ W.cell? ⟨blk a, ofs a + j * 5 + 1, none⟩ = some (.int .i64 (nth rs j).a) ∧ W.cell? ⟨blk a, ofs a + j * 5 + 2, none⟩ = some (.int .i64 (nth rs j).b) ∧ W.cell? ⟨blk a, ofs a + j * 5 + 3, none⟩ = some (.int .i64 (nth rs j).f) ∧ W.cell? ⟨blk a, ofs a + j * 5 + 4, none⟩ = some (.slice (nth rs j).sa (nth rs j).sn (nth rs j).sc)) ∧ blk a < W.heap.size := by
  obtain ⟨rs, hl, h2, h3⟩ := h
  obtain ⟨a, c, h1, hn, hi, h4, h5⟩ := h2.outN sCon (by omega)
  exact ⟨a, c, rs, h1, hl, h3, fun x => hi .i64 x, fun j hj => ⟨⟨h4 j hj 0 (by omega), h4 j hj 1 (by omega), h4 j hj 2 (by omega), h4 j hj 3 (by omega), h4 j hj 4 (by omega)⟩, h5 j hj⟩⟩
theorem consIn_own {W : World} {B : Nat} {v : Value} {rs : List RC} {l : List R} (h : ICon W B v rs) (hl : rs.length = l.length) (h3 : ∀ i, i < l.length → (nth rs i).k = (nth l i).k ∧ (nth rs i).a = (nth l i).a ∧ (nth rs i).b = (nth l i).b ∧ (nth rs i).f = (nth l i).f ∧ Ints W (nth rs i).set (nth l i).s) : ConsIn W v l := by
  refine ⟨rs, hl, ?_, h3⟩
  have := OwnE.sliced h
  rw [hl] at this
  exact this
theorem nth_rev {α : Type} [Inhabited α] (l : List α) (i : Nat) (h : i < l.length) : nth l.reverse i = nth l (l.length - 1 - i) := by
  rw [nth_eq _ _ (by simpa using h), nth_eq _ _ (by omega), List.getElem_reverse]
/-- The constraints in the opposite order, and the first of them once more. -/
def turned {α : Type} [Inhabited α] (l : List α) : List α := if 0 < l.length then l.reverse ++ [nth l 0] else l.reverse
theorem turned_mem {α : Type} [Inhabited α] (l : List α) (x : α) : x ∈ turned l ↔ x ∈ l := by
  unfold turned
  split
  · rename_i h
    simp only [List.mem_append, List.mem_reverse, List.mem_cons, List.not_mem_nil, or_false]
    exact ⟨fun hh => hh.elim id fun e => by rw [e]; exact nth_mem _ _ h, .inl⟩
  · simp
theorem turned_len {α : Type} [Inhabited α] (l : List α) : (turned l).length ≤ l.length + 1 := by
  unfold turned; split <;> simp
theorem turned_rel {α β : Type} [Inhabited α] [Inhabited β] {p : α → β → Prop} {l : List α} {m : List β} (hl : l.length = m.length) (h : ∀ i, i < m.length → p (nth l i) (nth m i)) : (turned l).length = (turned m).length ∧ ∀ i, i < (turned m).length → p (nth (turned l) i) (nth (turned m) i) := by
  have hr : ∀ i, i < m.length → p (nth l.reverse i) (nth m.reverse i) := fun i hi => by
    rw [nth_rev _ _ (by omega), nth_rev _ _ hi, hl]
    exact h _ (by omega)
  unfold turned
  by_cases h0 : 0 < m.length
  · rw [if_pos (by omega), if_pos h0]
    refine ⟨by simp [hl], fun i hi => ?_⟩
    rw [nth_append, nth_append]
    simp only [List.length_reverse]
    by_cases e : i < m.length
    · rw [if_pos (by omega), if_pos e]; exact hr i e
    · rw [if_neg (by omega), if_neg e]
      simp at hi
      have e1 : i - l.length = 0 := by omega
      have e2 : i - m.length = 0 := by omega
      rw [e1, e2]
      exact h 0 h0
  · rw [if_neg (by omega), if_neg h0]
    exact ⟨by simp [hl], fun i hi => by simp at hi; omega⟩

/-- What is read when a constraint is appended. -/
def RdIn (tb bs : Nat) (vc cv : Value) (b o : Nat) (c : RC) (W : World) : Prop :=
  W.cell? ⟨tb, 3, none⟩ = some vc ∧ W.cell? ⟨bs, 3, none⟩ = some cv ∧ W.cell? ⟨b, o, none⟩ = some (.int .i64 c.k) ∧ W.cell? ⟨b, o + 1, none⟩ = some (.int .i64 c.a) ∧ W.cell? ⟨b, o + 2, none⟩ = some (.int .i64 c.b) ∧ W.cell? ⟨b, o + 3, none⟩ = some (.int .i64 c.f) ∧ W.cell? ⟨b, o + 4, none⟩ = some (.slice c.sa c.sn c.sc)
theorem RdIn.grown {tb bs : Nat} {vc cv : Value} {b o : Nat} {c : RC} {W W' : World} {row : Option Nat} (h : RdIn tb bs vc cv b o c W) (hg : W.grownBy W' row) (h1 : some tb ≠ row) (h2 : some bs ≠ row) (h3 : some b ≠ row) : RdIn tb bs vc cv b o c W' :=
  ⟨hg.cell h.1 h1, hg.cell h.2.1 h2, hg.cell h.2.2.1 h3, hg.cell h.2.2.2.1 h3, hg.cell h.2.2.2.2.1 h3, hg.cell h.2.2.2.2.2.1 h3, hg.cell h.2.2.2.2.2.2 h3⟩

/-- The system in the making: below its block all is as it was. -/
structure Mkg (tb : Nat) (s : Sy) (W0 : World) (n : Nat) (va : Option Addr) (vn : Nat) (rs : List RC) (W : World) : Prop where
  own : ICon W (tb + 1) (.slice va n vn) rs
  len : rs.length = n
  cell : W.cell? ⟨tb, 3, none⟩ = some (.slice va n vn)
  froz : W.frozen? ⟨tb, 3, none⟩ = false
  size : tb < W.heap.size
  t0 : W.cell? ⟨tb, 0, none⟩ = some (.int .i64 s.vars)
  t1 : W.cell? ⟨tb, 1, none⟩ = some (.int .i64 s.sites)
  t2 : W.cell? ⟨tb, 2, none⟩ = some (.int .i64 s.fields)
  bel : Below tb W0 W
theorem Mkg.push {tb n vn : Nat} {s : Sy} {W0 W W1 : World} {va : Option Addr} {rs : List RC} (h : Mkg tb s W0 n va vn rs W) {va' : Option Addr} {vn' : Nat} {x : RC} (hg : W.grownBy W1 (Value.slice va n vn).ownBlock) (ho : ICon W1 (tb + 1) (.slice va' (n + 1) vn') (rs ++ [x])) :
    W1.cell? ⟨tb, 3, none⟩ = some (.slice va n vn) ∧ W1.frozen? ⟨tb, 3, none⟩ = false ∧ Mkg tb s W0 (n + 1) va' vn' (rs ++ [x]) (W1.setCell ⟨tb, 3, none⟩ (.slice va' (n + 1) vn')) := by
  have hrow : ∀ k, (Value.slice va n vn).ownBlock = some k → tb + 1 ≤ k := fun k hk => (OwnE.lt h.own k hk).1
  have hne : some tb ≠ (Value.slice va n vn).ownBlock := fun e => by have := hrow tb e.symm; omega
  have hblk := hg.block tb h.size hne
  have hc3 := hg.cell h.cell hne
  have hf : W1.frozen? ⟨tb, 3, none⟩ = false := by rw [World.frozen?_of_block (a := ⟨tb, 3, none⟩) hblk]; exact h.froz
  have g2 := grownBy_setCell W1 ⟨tb, 3, none⟩ (.slice va' (n + 1) vn')
  have oth : ∀ j v, j < 3 → W.cell? ⟨tb, j, none⟩ = some v → (W1.setCell ⟨tb, 3, none⟩ (.slice va' (n + 1) vn')).cell? ⟨tb, j, none⟩ = some v := fun j v hj hv => by
    rw [World.cell?_setCell_other W1 _ _ _ (by simp; try omega)]
    exact hg.cell hv hne
  refine ⟨hc3, hf, OwnE.grown ho g2 ?_, by simp [h.len], World.cell?_setCell_same W1 _ _ hc3, ?_, ?_, oth 0 _ (by omega) h.t0, oth 1 _ (by omega) h.t1, oth 2 _ (by omega) h.t2, ?_⟩
  · cases hk : (Value.slice va' (n + 1) vn').ownBlock with
    | none => exact .inl rfl
    | some k => exact .inr fun e => by simp at e; have := (OwnE.lt ho k hk).1; omega
  · rw [World.frozen?_setCell]; exact hf
  · have := h.size; have := hg.size; simp; omega
  · exact (h.bel.grown hg (Nat.le_of_lt h.size) (fun k hk => by have := hrow k hk; omega)).setCell (Nat.le_refl _) _

theorem Mkg.new {tb : Nat} {s : Sy} {W : World} (h : W.heap.size = tb) : Mkg tb s W 0 none 0 [] (W.alloc (.cells #[.int .i64 s.vars, .int .i64 s.sites, .int .i64 s.fields, .slice none 0 0] 24)) := by
  subst h
  obtain ⟨b0, b1, b2, b3⟩ := BoxS.new W s (.slice none 0 0) 24
  exact ⟨OwnE.nil _ _ _ _, rfl, b3, World.frozen?_alloc_new _ _ _ _, by simp, b0, b1, b2, (Below.refl _ _).alloc (Nat.le_refl _) _⟩
/-- What stands below the block of the system in the making. -/
structure Old (tb bs : Nat) (s : Sy) (ca : Option Addr) (cc : Nat) (R0 : List RC) (W Z : World) : Prop where
  lt : bs < tb
  size : Z.heap.size = tb
  cell : Z.cell? ⟨bs, 3, none⟩ = some (.slice ca s.cons.length cc)
  blk : 0 < s.cons.length → blk ca < tb
  cels : ∀ j, j < s.cons.length → Z.cell? ⟨Go.Dfl.blk ca, ofs ca + j * 5, none⟩ = some (.int .i64 (nth R0 j).k) ∧ Z.cell? ⟨Go.Dfl.blk ca, ofs ca + j * 5 + 1, none⟩ = some (.int .i64 (nth R0 j).a) ∧ Z.cell? ⟨Go.Dfl.blk ca, ofs ca + j * 5 + 2, none⟩ = some (.int .i64 (nth R0 j).b) ∧ Z.cell? ⟨Go.Dfl.blk ca, ofs ca + j * 5 + 3, none⟩ = some (.int .i64 (nth R0 j).f) ∧ Z.cell? ⟨Go.Dfl.blk ca, ofs ca + j * 5 + 4, none⟩ = some (.slice (nth R0 j).sa (nth R0 j).sn (nth R0 j).sc)
  len : R0.length = s.cons.length
  rel : ∀ i, i < s.cons.length → (nth R0 i).k = (nth s.cons i).k ∧ (nth R0 i).a = (nth s.cons i).a ∧ (nth R0 i).b = (nth s.cons i).b ∧ (nth R0 i).f = (nth s.cons i).f ∧ Ints W (nth R0 i).set (nth s.cons i).s
  bel : Below W.heap.size W Z
theorem RdIn.of {tb bs cc j vn m : Nat} {s : Sy} {W Z wr : World} {ca va : Option Addr} {R0 rs : List RC} (h : Mkg tb s Z j va vn rs wr) (o : Old tb bs s ca cc R0 W Z) (hm : m < s.cons.length) : RdIn tb bs (.slice va j vn) (.slice ca s.cons.length cc) (blk ca) (ofs ca + m * 5) (nth R0 m) wr := by
  have hb := o.blk (by omega)
  obtain ⟨c0, c1, c2, c3, c4⟩ := o.cels m hm
  refine ⟨h.cell, ?_, ?_, ?_, ?_, ?_, ?_⟩
  · rw [h.bel.cell (p := ⟨bs, 3, none⟩) o.lt]; exact o.cell
  · rw [h.bel.cell (p := ⟨blk ca, ofs ca + m * 5, none⟩) hb]; exact c0
  · rw [h.bel.cell (p := ⟨blk ca, ofs ca + m * 5 + 1, none⟩) hb]; exact c1
  · rw [h.bel.cell (p := ⟨blk ca, ofs ca + m * 5 + 2, none⟩) hb]; exact c2
  · rw [h.bel.cell (p := ⟨blk ca, ofs ca + m * 5 + 3, none⟩) hb]; exact c3
  · rw [h.bel.cell (p := ⟨blk ca, ofs ca + m * 5 + 4, none⟩) hb]; exact c4
theorem RdIn.of0 {tb bs cc j vn : Nat} {s : Sy} {W Z wr : World} {ca va : Option Addr} {R0 rs : List RC} (h : Mkg tb s Z j va vn rs wr) (o : Old tb bs s ca cc R0 W Z) (hm : 0 < s.cons.length) : RdIn tb bs (.slice va j vn) (.slice ca s.cons.length cc) (blk ca) (ofs ca) (nth R0 0) wr := by
  have h1 := RdIn.of h o hm
  rw [Nat.zero_mul, Nat.add_zero] at h1
  exact h1
theorem Mkg.sys {tb bs cc n vn : Nat} {s : Sy} {W Z wr : World} {ca va : Option Addr} {R0 : List RC} (h : Mkg tb s Z n va vn (turned R0) wr) (o : Old tb bs s ca cc R0 W Z) : SysB tb { s with cons := turned s.cons } (.slice va n vn) wr ∧ n = (turned s.cons).length ∧ Below W.heap.size W wr := by
  have hw : Below W.heap.size W wr := o.bel.trans (h.bel.mono (by have := o.bel.size; have := o.size; omega))
  have hr := turned_rel (p := fun (r : RC) (x : R) => r.k = x.k ∧ r.a = x.a ∧ r.b = x.b ∧ r.f = x.f ∧ Ints wr r.set x.s) o.len fun i hi => ⟨(o.rel i hi).1, (o.rel i hi).2.1, (o.rel i hi).2.2.1, (o.rel i hi).2.2.2.1, (o.rel i hi).2.2.2.2.below hw⟩
  exact ⟨⟨⟨h.t0, h.t1, h.t2, h.cell⟩, consIn_own h.own hr.1 hr.2⟩, by rw [← hr.1, h.len], hw⟩
theorem take_rev {l : List RC} {j m : Nat} (h : m + j + 1 = l.length) : l.reverse.take j ++ [nth l m] = l.reverse.take (j + 1) := by
  rw [List.take_add_one, List.getElem?_eq_getElem (by simp; omega), List.getElem_reverse, nth_eq _ _ (by omega)]
  simp only [Option.toList]
  congr 3
  omega

set_option maxHeartbeats 6400000 in
set_option maxRecDepth 100000 in
theorem AndersenOrder_walk (s : Sy) (cv : Value) (W : World) (hc : ConsIn W cv s.cons) :
    Calls Try.prog 6 #[SysV s cv] W (TruePost W) := by
  obtain ⟨ca, cc, R0, rfl, hR0, hrel0, hci, hcel0⟩ := hc.raw
  have HC := Lib.hid (And.intro hc (And.intro hR0 (And.intro hrel0 hcel0)))
  clear hc hR0 hrel0 hcel0
  unfold SysV
  go_enter Try.func6, Try.ntmps6
  go_wp2_with fail
  refine calls_gen (fun Z => SysB W.heap.size s (.slice ca s.cons.length cc) Z ∧ Below W.heap.size W Z) ⟨SysB.new HC.out.1 24, (Below.refl _ _).alloc (Nat.le_refl _) _⟩ ?_
  rintro Z0 h0
  obtain ⟨bs, hbs⟩ : ∃ bs, bs = W.heap.size := ⟨_, rfl⟩
  have H0 : Hid (SysB bs s (.slice ca s.cons.length cc) Z0 ∧ Below W.heap.size W Z0) := by rw [hbs]; exact h0
  have HBS := Lib.hid hbs
  rw [← hbs]
  clear h0 hbs
  refine (Small_any s (.slice ca s.cons.length cc) _ H0.out.1.cons).mono ?_
  rintro e W1 ⟨b1, rfl, hb1, r1⟩
  have hb1 := H0.out.2.trans (r1.mono H0.out.2.size)
  have H1 := Lib.hid (And.intro (H0.out.1.below r1) hb1)
  obtain ⟨⟨d0, d1, d2, d3⟩, -⟩ := H1.out.1
  clear hb1 H0 r1
  cases b1
  · go_wp2_with fail
    refine (awake_any _).mono ?_
    rintro e W2 ⟨rfl, r2⟩
    clear d0 d1 d2 d3
    have H2 := Lib.hid (H1.out.2.trans (r2.mono H1.out.2.size))
    clear r2 hb1
    go_wp2_with fail
    go_ret
    exact ⟨rfl, H2.out⟩
  · have hsm := (hb1.1 rfl).sm
    have hcl100 := (hb1.1 rfl).1.1
    have HSM := Lib.hid (And.intro hsm hcl100)
    clear hsm hb1
    go_wp2_with fail
    refine (awake_any _).mono ?_
    rintro e W3 ⟨rfl, r3⟩
    clear d0 d1 d2 d3
    have hb3 := H1.out.2.trans (r3.mono H1.out.2.size)
    have H3 := Lib.hid (And.intro (H1.out.1.below r3) hb3)
    obtain ⟨⟨d0, d1, d2, d3⟩, -⟩ := H3.out.1
    clear hb3 H1 r3
    go_wp2_with fail
    clear d0 d1 d2 d3
    refine (Solve_any s (.slice ca s.cons.length cc) _ H3.out.1.cons HSM.out.1).mono ?_
    rintro e W4 (⟨h0, rfl, r4⟩ | ⟨h0, xa, xc, ya, yc, lu, lv, rfl, hpts, hsol, r4⟩)
    · have hz : (chkCode s != 0) = true := by simpa using h0
      have H4 := Lib.hid (H3.out.2.trans (r4.mono H3.out.2.size))
      clear h0 r4
      go_wp2_with fail
      go_ret
      exact ⟨rfl, H4.out.alloc H4.out.size _⟩
    · have hal : Below W4.heap.size W4 (W4.alloc (.cells #[.slice xa s.S.vars xc, .slice ya (s.S.sites * s.S.fields) yc] 29)) := (Below.refl _ _).alloc (Nat.le_refl _) _
      have hQ := PtsB.new hpts 29
      have hInR := hsol.inR (chkCode_ok.1 h0).ok (by have := HSM.out.1.sites; show s.sites.toNat ≤ 12; omega)
      have HSOL := Lib.hid (And.intro h0 (And.intro hsol hInR))
      have hbW : Below W.heap.size W W4 := H3.out.2.trans (r4.mono H3.out.2.size)
      have hS5 := (H3.out.1.below r4).below hal
      have H4 := Lib.hid (And.intro hS5 (And.intro hQ (hbW.alloc hbW.size (.cells #[.slice xa s.S.vars xc, .slice ya (s.S.sites * s.S.fields) yc] 29))))
      obtain ⟨⟨d0, d1, d2, d3⟩, -⟩ := H4.out.1
      have hlt : bs < W4.heap.size + 1 := by have h := World.block_lt_of_cell? _ ⟨bs, 0, none⟩ d0; simpa using h
      have nb1 : bs ≠ W4.heap.size + 1 := by omega
      clear hal hQ hInR hbW r4 hsol h0 hpts H3 hS5
      go_wp2_with fail
      clear d0 d1 d2 d3
      refine wp_gen (fun Z => ∃ Z4, Mkg (W4.heap.size + 1) s Z4 0 none 0 [] Z ∧ Old (W4.heap.size + 1) bs s ca cc R0 W Z4 ∧ SysB bs s (.slice ca s.cons.length cc) Z4 ∧ PtsB W4.heap.size (.slice xa s.S.vars xc) (.slice ya (s.S.sites * s.S.fields) yc) lu lv Z4) ⟨_, Mkg.new (World.size_alloc _ _), ⟨hlt, World.size_alloc _ _, H4.out.1.box.2.2.2, ?_, ?_, HC.out.2.1, HC.out.2.2.1, H4.out.2.2⟩, H4.out.1, H4.out.2.1⟩ ?_
      · intro h0
        have h1 := (HC.out.2.2.2 0 h0).2
        have h2 := H4.out.2.2.size
        rw [World.size_alloc] at h2
        omega
      · intro j hj
        obtain ⟨⟨c0, c1, c2, c3, c4⟩, hb⟩ := HC.out.2.2.2 j hj
        have hbe := H4.out.2.2
        refine ⟨?_, ?_, ?_, ?_, ?_⟩
        · rw [hbe.cell (p := ⟨blk ca, ofs ca + j * 5, none⟩) hb]; exact c0
        · rw [hbe.cell (p := ⟨blk ca, ofs ca + j * 5 + 1, none⟩) hb]; exact c1
        · rw [hbe.cell (p := ⟨blk ca, ofs ca + j * 5 + 2, none⟩) hb]; exact c2
        · rw [hbe.cell (p := ⟨blk ca, ofs ca + j * 5 + 3, none⟩) hb]; exact c3
        · rw [hbe.cell (p := ⟨blk ca, ofs ca + j * 5 + 4, none⟩) hb]; exact c4
      rintro Z5 ⟨Z4, h5⟩
      obtain ⟨tb, htb⟩ : ∃ tb, tb = W4.heap.size + 1 := ⟨_, rfl⟩
      obtain ⟨pb, hpb⟩ : ∃ pb, pb = W4.heap.size := ⟨_, rfl⟩
      have H5 : Hid (Mkg tb s Z4 0 none 0 [] Z5 ∧ Old tb bs s ca cc R0 W Z4 ∧ SysB bs s (.slice ca s.cons.length cc) Z4 ∧ PtsB pb (.slice xa s.S.vars xc) (.slice ya (s.S.sites * s.S.fields) yc) lu lv Z4) := by rw [htb, hpb]; exact h5
      rw [← htb, ← hpb]
      clear h5 htb hpb H4 hlt nb1
      have HB := Lib.hid H5.out.2.1
      go_loopw [6] (fun x wr => ∃ (j : Nat) (y : Int) (va : Option Addr) (vn : Nat), x = .int .i64 y ∧ y + j + 1 = s.cons.length ∧ -1 ≤ y ∧ Hid (Mkg tb s Z4 j va vn (R0.reverse.take j) wr)) (fun x _ => (intOf x + 1).toNat)
      case atStart => exact ⟨0, _, none, 0, rfl, by omega, by omega, Lib.hid (by simpa using H5.out.1)⟩
      case round =>
        obtain ⟨j, y, va, vn, rfl, hy, hy1, hh⟩ := hrel
        by_cases hlt : 0 ≤ y
        · obtain ⟨m, rfl⟩ : ∃ m : Nat, y = m := ⟨y.toNat, by omega⟩
          have hm : m < s.cons.length := by omega
          have hrd : RdIn tb bs (.slice va j vn) (.slice ca s.cons.length cc) (blk ca) (ofs ca + m * 5) (nth R0 m) wr := RdIn.of hh.out HB.out hm
          have hsz := hh.out.size
          have hlen := HSM.out.2
          have HR := Lib.hid (And.intro hrd (HB.out.blk (by omega)))
          clear hrd
          go_wp2_with fail
          refine wp_region_mix [0, 1, 2, 3, 4, 5, 6] [7, 8, 9, 10] (fun w' => RdIn tb bs (.slice va j vn) (.slice ca s.cons.length cc) (blk ca) (ofs ca + m * 5) (nth R0 m) w') (by kernel_rfl) (by kernel_rfl) (by kernel_rfl) (HR.out.1.grown (grownBy_drew0 _) (by simp) (by simp) (by simp)) ?_
          repeat (
            refine wpHeads_cons (v := ?_) rfl (Or.inl ⟨by rfl, ?_⟩) ?_
            rotate_left
            · (intro W hW; obtain ⟨q1, q2, q3, q4, q5, q6, q7⟩ := hW; go_simp; try with_reducible rfl)
            simp only [Act.put, List.setIfInBounds_toArray])
          refine wpHeads_nil ?_
          refine wpTails_cons rfl ?_
          go_wp2_with fail
          have g2 : wr.grownBy ((wr.alloc (.cells #[.int .i64 (nth R0 m).k, .int .i64 (nth R0 m).a, .int .i64 (nth R0 m).b, .int .i64 (nth R0 m).f, .slice (nth R0 m).sa (nth R0 m).sn (nth R0 m).sc] 39)).drew) none := grownBy_trans (grownBy_alloc _ _) (grownBy_drew0 _)
          refine tail_mk (HR.out.1.grown g2 (by simp) (by simp) (by simp)) ?_
          refine wpTails_cons rfl ?_
          refine wp_appendE (E := elC) sCon rfl rfl _ _ rfl (v := .slice va j vn) (l := R0.reverse.take j) (base := tb + 1) rfl wr.heap.size rfl (OwnE.grown hh.out.own g2 (by cases (Value.slice va j vn).ownBlock <;> simp)) (nth R0 m) (cells_new (W := wr) (cs := [.int .i64 (nth R0 m).k, .int .i64 (nth R0 m).a, .int .i64 (nth R0 m).b, .int .i64 (nth R0 m).f, .slice (nth R0 m).sa (nth R0 m).sn (nth R0 m).sc]) (t := 39) rfl) (by have := hh.out.len; omega) (by have := hh.out.len; omega) (by simp; omega) ?_
          intro v31 w31 o31 g31 l31
          obtain ⟨s31, c31, rfl⟩ := OwnE.shape o31 (n := j + 1) (by have := hh.out.len; simp only [List.length_append, List.length_cons, List.length_nil]; omega)
          have hrow : ∀ k, (Value.slice va j vn).ownBlock = some k → tb + 1 ≤ k := fun k hk => (OwnE.lt hh.out.own k hk).1
          have g3 := grownBy_trans (grownBy_widen g2) g31
          have hS31 := HR.out.1.grown g3 (fun e => by have := hrow tb e.symm; omega) (fun e => by have := hrow bs e.symm; have := HB.out.lt; omega) (fun e => by have := hrow _ e.symm; have := HR.out.2; omega)
          obtain ⟨hc31, hf31, hpush⟩ := hh.out.push g3 o31
          refine tail_mk hS31 ?_
          refine wpTails_cons rfl ?_
          go_wp2_with fail
          refine tail_mk hS31 ?_
          refine wpTails_one rfl ?_
          have HP := Lib.hid hpush
          clear hpush hS31 o31 g31 l31 g2 g3 hrow
          go_wp2_with fail
          refine thenQ_mk ?_
          clear hc31 hf31
          go_wp2_with fail
          go_roundw
          case rel => exact ⟨j + 1, (m : Int) - 1, _, _, by go_num, by omega, by omega, Lib.hid (by rw [← take_rev (m := m) (by have := HB.out.len; omega)]; exact HP.out)⟩
          case measure => simp [intOf]
        · obtain rfl : y = -1 := by omega
          have hj : j = s.cons.length := by omega
          have hln := HB.out.len
          have htk : R0.reverse.take j = R0.reverse := List.take_of_length_le (by simp; omega)
          have d3 : wr.cell? ⟨bs, 3, none⟩ = some (.slice ca s.cons.length cc) := by rw [hh.out.bel.cell (p := ⟨bs, 3, none⟩) HB.out.lt]; exact HB.out.cell
          by_cases h0 : 0 < s.cons.length
          · have hbt : decide (0 < (s.cons.length : Int)) = true := by simpa using h0
            have htn : R0.reverse.take j ++ [nth R0 0] = turned R0 := by rw [htk]; unfold turned; rw [if_pos (by omega)]
            have HTN := Lib.hid htn
            clear htk htn hj hln
            have hrd : RdIn tb bs (.slice va j vn) (.slice ca s.cons.length cc) (blk ca) (ofs ca) (nth R0 0) wr := RdIn.of0 hh.out HB.out h0
            have hsz := hh.out.size
            have hlen := HSM.out.2
            have HR := Lib.hid (And.intro hrd (HB.out.blk (by omega)))
            clear hrd
            go_wp2_with fail
            refine wp_region_mix [0, 1, 2, 3, 4, 5] [6, 7, 8, 9] (fun w' => RdIn tb bs (.slice va j vn) (.slice ca s.cons.length cc) (blk ca) (ofs ca) (nth R0 0) w') (by kernel_rfl) (by kernel_rfl) (by kernel_rfl) (HR.out.1.grown (grownBy_drew0 _) (by simp) (by simp) (by simp)) ?_
            repeat (
              refine wpHeads_cons (v := ?_) rfl (Or.inl ⟨by rfl, ?_⟩) ?_
              rotate_left
              · (intro W hW; obtain ⟨q1, q2, q3, q4, q5, q6, q7⟩ := hW; go_simp; try with_reducible rfl)
              simp only [Act.put, List.setIfInBounds_toArray])
            refine wpHeads_nil ?_
            refine wpTails_cons rfl ?_
            go_wp2_with fail
            have g2 : wr.grownBy ((wr.alloc (.cells #[.int .i64 (nth R0 0).k, .int .i64 (nth R0 0).a, .int .i64 (nth R0 0).b, .int .i64 (nth R0 0).f, .slice (nth R0 0).sa (nth R0 0).sn (nth R0 0).sc] 39)).drew) none := grownBy_trans (grownBy_alloc _ _) (grownBy_drew0 _)
            refine tail_mk (HR.out.1.grown g2 (by simp) (by simp) (by simp)) ?_
            refine wpTails_cons rfl ?_
            refine wp_appendE (E := elC) sCon rfl rfl _ _ rfl (v := .slice va j vn) (l := R0.reverse.take j) (base := tb + 1) rfl wr.heap.size rfl (OwnE.grown hh.out.own g2 (by cases (Value.slice va j vn).ownBlock <;> simp)) (nth R0 0) (cells_new (W := wr) (cs := [.int .i64 (nth R0 0).k, .int .i64 (nth R0 0).a, .int .i64 (nth R0 0).b, .int .i64 (nth R0 0).f, .slice (nth R0 0).sa (nth R0 0).sn (nth R0 0).sc]) (t := 39) rfl) (by have := hh.out.len; omega) (by have := hh.out.len; omega) (by simp; omega) ?_
            intro v31 w31 o31 g31 l31
            obtain ⟨s31, c31, rfl⟩ := OwnE.shape o31 (n := j + 1) (by have := hh.out.len; simp only [List.length_append, List.length_cons, List.length_nil]; omega)
            have hrow : ∀ k, (Value.slice va j vn).ownBlock = some k → tb + 1 ≤ k := fun k hk => (OwnE.lt hh.out.own k hk).1
            have g3 := grownBy_trans (grownBy_widen g2) g31
            have hS31 := HR.out.1.grown g3 (fun e => by have := hrow tb e.symm; omega) (fun e => by have := hrow bs e.symm; have := HB.out.lt; omega) (fun e => by have := hrow _ e.symm; have := HR.out.2; omega)
            obtain ⟨hc31, hf31, hpush⟩ := hh.out.push g3 o31
            refine tail_mk hS31 ?_
            refine wpTails_cons rfl ?_
            go_wp2_with fail
            refine tail_mk hS31 ?_
            refine wpTails_one rfl ?_
            have HP := Lib.hid hpush
            clear hpush hS31 o31 g31 l31 g2 g3 hrow
            go_wp2_with fail
            refine thenQ_mk ?_
            clear hc31 hf31
            have HM : Hid (Mkg tb s Z4 (j + 1) s31 c31 (turned R0) _) := Lib.hid (by rw [← HTN.out]; exact HP.out)
            clear d3 HP HR hh HTN
            have hsys := HM.out.sys HB.out
            have hbl := HM.out.bel.mono (Nat.le_of_eq HB.out.size)
            have HT := Lib.hid (And.intro hsys.1 (And.intro (H5.out.2.2.2.below hbl) hsys.2.2))
            obtain ⟨⟨t0, t1, t2, t3⟩, -⟩ := HT.out.1
            dsimp only at t0 t1 t2
            have hsub : ∀ c ∈ turned s.cons, c ∈ s.cons := fun c hc => (turned_mem _ c).1 hc
            have hsub2 : ∀ c ∈ s.cons, c ∈ turned s.cons := fun c hc => (turned_mem _ c).2 hc
            have hsmt : Sm { s with cons := turned s.cons } := ⟨HSM.out.1.vars, HSM.out.1.sites, HSM.out.1.fields, Nat.le_trans (turned_len s.cons) (by have := HSM.out.2; omega)⟩
            have HSUB := Lib.hid (And.intro hsub (And.intro hsub2 (And.intro (sub_chk hsub HSOL.out.1) hsmt)))
            clear hsys hbl hsub hsub2 hsmt HM
            go_wp2_with fail
            clear t0 t1 t2 t3
            refine (Solve_any { s with cons := turned s.cons } (.slice s31 (j + 1) c31) _ HT.out.1.cons HSUB.out.2.2.2).mono ?_
            rintro e W6 (⟨h6, -⟩ | ⟨h6, qa, qc, ra, rc, qu, qv, rfl, hpts, hsolq, r6⟩)
            · exact absurd HSUB.out.2.2.1 h6
            rw [show ({ s with cons := turned s.cons } : Sy).S.vars = s.S.vars from rfl, show ({ s with cons := turned s.cons } : Sy).S.sites = s.S.sites from rfl, show ({ s with cons := turned s.cons } : Sy).S.fields = s.S.fields from rfl] at hpts ⊢
            have hal : Below W6.heap.size W6 (W6.alloc (.cells #[.slice qa s.S.vars qc, .slice ra (s.S.sites * s.S.fields) rc] 29)) := (Below.refl _ _).alloc (Nat.le_refl _) _
            have hQ := PtsB.new hpts 29
            have hInQ := hsolq.inR (chkCode_ok.1 h6).ok (by have := HSM.out.1.sites; show s.sites.toNat ≤ 12; omega)
            have hwin := sub_win HSUB.out.1 hsolq HSOL.out.2.1
            have hwin2 := sub_win (s := { s with cons := turned s.cons }) (l := s.cons) HSUB.out.2.1 HSOL.out.2.1 hsolq
            have HSQ := Lib.hid (And.intro hwin (And.intro hwin2 hInQ))
            have hbW : Below W.heap.size W W6 := HT.out.2.2.trans (r6.mono HT.out.2.2.size)
            have H6 : Hid (PtsB pb (.slice xa s.S.vars xc) (.slice ya (s.S.sites * s.S.fields) yc) lu lv (W6.alloc (.cells #[.slice qa s.S.vars qc, .slice ra (s.S.sites * s.S.fields) rc] 29)) ∧ PtsB W6.heap.size (.slice qa s.S.vars qc) (.slice ra (s.S.sites * s.S.fields) rc) qu qv (W6.alloc (.cells #[.slice qa s.S.vars qc, .slice ra (s.S.sites * s.S.fields) rc] 29)) ∧ Below W.heap.size W (W6.alloc (.cells #[.slice qa s.S.vars qc, .slice ra (s.S.sites * s.S.fields) rc] 29))) :=
              ⟨(HT.out.2.1.below r6).below hal, hQ, hbW.alloc hbW.size _⟩
            clear hal hQ hInQ hwin hwin2 hbW r6 hsolq hpts h6 HT
            obtain ⟨p0, p1, -⟩ := H6.out.1
            obtain ⟨q0, q1, -⟩ := H6.out.2.1
            go_wp2_with fail
            clear p0 p1 q0 q1
            refine (WithinP_any _ _ _ _ lu lv qu qv _ H6.out.1.pts H6.out.2.1.pts HSOL.out.2.2.1 HSOL.out.2.2.2.1 HSQ.out.2.2.1 HSQ.out.2.2.2.1 (fun i hi => Nat.le_trans (HSQ.out.2.2.2.2.1 i hi) (by omega)) (fun i hi => Nat.le_trans (HSQ.out.2.2.2.2.2 i hi) (by omega))).mono ?_
            rintro e W7 ⟨rfl, r7⟩
            rw [HSQ.out.2.1.1, HSQ.out.2.1.2, Bool.and_true]
            have hb7 := H6.out.2.2.trans (r7.mono H6.out.2.2.size)
            have H7 := Lib.hid (And.intro (H6.out.1.below r7) (And.intro (H6.out.2.1.below r7) hb7))
            clear hb7 r7 H6
            obtain ⟨p0, p1, -⟩ := H7.out.1
            obtain ⟨q0, q1, -⟩ := H7.out.2.1
            go_wp2_with fail
            clear p0 p1 q0 q1
            refine (WithinP_any _ _ _ _ qu qv lu lv _ H7.out.2.1.pts H7.out.1.pts HSQ.out.2.2.1 HSQ.out.2.2.2.1 HSOL.out.2.2.1 HSOL.out.2.2.2.1 (fun i hi => Nat.le_trans (HSOL.out.2.2.2.2.1 i hi) (by omega)) (fun i hi => Nat.le_trans (HSOL.out.2.2.2.2.2 i hi) (by omega))).mono ?_
            rintro e W8 ⟨rfl, r8⟩
            rw [HSQ.out.1.1, HSQ.out.1.2, Bool.and_true]
            have H8 := Lib.hid (H7.out.2.2.trans (r8.mono H7.out.2.2.size))
            clear r8 H7
            go_wp2_with fail
            go_ret
            exact ⟨rfl, H8.out⟩
          · have hbt : decide (0 < (s.cons.length : Int)) = false := by simpa using h0
            have htn : R0.reverse.take j = turned R0 := by rw [htk]; unfold turned; rw [if_neg (by omega)]
            have HM : Hid (Mkg tb s Z4 j va vn (turned R0) wr) := Lib.hid (by rw [← htn]; exact hh.out)
            clear htk htn hh
            have hj2 := Lib.hid hj
            clear hj
            have hsys := HM.out.sys HB.out
            have hbl := HM.out.bel.mono (Nat.le_of_eq HB.out.size)
            have HT := Lib.hid (And.intro hsys.1 (And.intro (H5.out.2.2.2.below hbl) hsys.2.2))
            obtain ⟨⟨t0, t1, t2, t3⟩, -⟩ := HT.out.1
            dsimp only at t0 t1 t2
            have hsub : ∀ c ∈ turned s.cons, c ∈ s.cons := fun c hc => (turned_mem _ c).1 hc
            have hsub2 : ∀ c ∈ s.cons, c ∈ turned s.cons := fun c hc => (turned_mem _ c).2 hc
            have hsmt : Sm { s with cons := turned s.cons } := ⟨HSM.out.1.vars, HSM.out.1.sites, HSM.out.1.fields, Nat.le_trans (turned_len s.cons) (by have := HSM.out.2; omega)⟩
            have HSUB := Lib.hid (And.intro hsub (And.intro hsub2 (And.intro (sub_chk hsub HSOL.out.1) hsmt)))
            clear hsys hbl hsub hsub2 hsmt HM
            go_wp2_with fail
            clear t0 t1 t2 t3
            refine (Solve_any { s with cons := turned s.cons } (.slice va j vn) _ HT.out.1.cons HSUB.out.2.2.2).mono ?_
            rintro e W6 (⟨h6, -⟩ | ⟨h6, qa, qc, ra, rc, qu, qv, rfl, hpts, hsolq, r6⟩)
            · exact absurd HSUB.out.2.2.1 h6
            rw [show ({ s with cons := turned s.cons } : Sy).S.vars = s.S.vars from rfl, show ({ s with cons := turned s.cons } : Sy).S.sites = s.S.sites from rfl, show ({ s with cons := turned s.cons } : Sy).S.fields = s.S.fields from rfl] at hpts ⊢
            have hal : Below W6.heap.size W6 (W6.alloc (.cells #[.slice qa s.S.vars qc, .slice ra (s.S.sites * s.S.fields) rc] 29)) := (Below.refl _ _).alloc (Nat.le_refl _) _
            have hQ := PtsB.new hpts 29
            have hInQ := hsolq.inR (chkCode_ok.1 h6).ok (by have := HSM.out.1.sites; show s.sites.toNat ≤ 12; omega)
            have hwin := sub_win HSUB.out.1 hsolq HSOL.out.2.1
            have hwin2 := sub_win (s := { s with cons := turned s.cons }) (l := s.cons) HSUB.out.2.1 HSOL.out.2.1 hsolq
            have HSQ := Lib.hid (And.intro hwin (And.intro hwin2 hInQ))
            have hbW : Below W.heap.size W W6 := HT.out.2.2.trans (r6.mono HT.out.2.2.size)
            have H6 : Hid (PtsB pb (.slice xa s.S.vars xc) (.slice ya (s.S.sites * s.S.fields) yc) lu lv (W6.alloc (.cells #[.slice qa s.S.vars qc, .slice ra (s.S.sites * s.S.fields) rc] 29)) ∧ PtsB W6.heap.size (.slice qa s.S.vars qc) (.slice ra (s.S.sites * s.S.fields) rc) qu qv (W6.alloc (.cells #[.slice qa s.S.vars qc, .slice ra (s.S.sites * s.S.fields) rc] 29)) ∧ Below W.heap.size W (W6.alloc (.cells #[.slice qa s.S.vars qc, .slice ra (s.S.sites * s.S.fields) rc] 29))) :=
              ⟨(HT.out.2.1.below r6).below hal, hQ, hbW.alloc hbW.size _⟩
            clear hal hQ hInQ hwin hwin2 hbW r6 hsolq hpts h6 HT
            obtain ⟨p0, p1, -⟩ := H6.out.1
            obtain ⟨q0, q1, -⟩ := H6.out.2.1
            go_wp2_with fail
            clear p0 p1 q0 q1
            refine (WithinP_any _ _ _ _ lu lv qu qv _ H6.out.1.pts H6.out.2.1.pts HSOL.out.2.2.1 HSOL.out.2.2.2.1 HSQ.out.2.2.1 HSQ.out.2.2.2.1 (fun i hi => Nat.le_trans (HSQ.out.2.2.2.2.1 i hi) (by omega)) (fun i hi => Nat.le_trans (HSQ.out.2.2.2.2.2 i hi) (by omega))).mono ?_
            rintro e W7 ⟨rfl, r7⟩
            rw [HSQ.out.2.1.1, HSQ.out.2.1.2, Bool.and_true]
            have hb7 := H6.out.2.2.trans (r7.mono H6.out.2.2.size)
            have H7 := Lib.hid (And.intro (H6.out.1.below r7) (And.intro (H6.out.2.1.below r7) hb7))
            clear hb7 r7 H6
            obtain ⟨p0, p1, -⟩ := H7.out.1
            obtain ⟨q0, q1, -⟩ := H7.out.2.1
            go_wp2_with fail
            clear p0 p1 q0 q1
            refine (WithinP_any _ _ _ _ qu qv lu lv _ H7.out.2.1.pts H7.out.1.pts HSQ.out.2.2.1 HSQ.out.2.2.2.1 HSOL.out.2.2.1 HSOL.out.2.2.2.1 (fun i hi => Nat.le_trans (HSOL.out.2.2.2.2.1 i hi) (by omega)) (fun i hi => Nat.le_trans (HSOL.out.2.2.2.2.2 i hi) (by omega))).mono ?_
            rintro e W8 ⟨rfl, r8⟩
            rw [HSQ.out.1.1, HSQ.out.1.2, Bool.and_true]
            have H8 := Lib.hid (H7.out.2.2.trans (r8.mono H7.out.2.2.size))
            clear r8 H7
            go_wp2_with fail
            go_ret
            exact ⟨rfl, H8.out⟩

set_option maxRecDepth 100000 in
theorem AndersenOrder_lifted (os : Os) (started : os.Started) (H : Type) (enc : TypeId × Value → H) :
    ReturnsInHanded {} Try.checked os 6 .any (Rows.andersenOrderSpec.pre6 enc Try.prog Try.f6 Rows.andersenOrderRow.domain false) (Rows.andersenOrderSpec.post enc Try.prog Try.f6 false true false false) := by
  refine returnsInHanded_of_change (C := Try.checked) own started (by kernel_rfl) Try.func6
    (ChangeSpec.witness6 (enc := enc) (C := Try.checked) false ⟨#[], #[.agg #[.int .i64 0, .int .i64 0, .int .i64 0, .slice none 0 0]], []⟩ 8 (by kernel_rfl) (by kernel_rfl) (by kernel_rfl) (by kernel_rfl)) ?_
  intro W base args ds gs before hval0 hW hcnd _
  have hval : ∀ (j : Nat) t v, Try.f6.params[j]? = some t → args[j]? = some v → Value.okWide Try.prog W .any base t v := hval0
  have hW' := hW
  obtain ⟨p, q, hA0, hV, rfl, hfz, hnd⟩ := hW
  have hA : DataW.TrodAll enc Try.prog W 0 (fun _ => true) true Try.f6.params.toList args.toList ds p := hA0
  rw [Try.params6] at hA hval
  obtain ⟨v0, vs0, d0, ds0, p0, q0, hargs, rfl, rfl, h0, r0⟩ := trodAll_cons hA
  obtain ⟨rfl, rfl, rfl⟩ := trodAll_nil r0
  obtain rfl : args = #[v0] := by cases args; simp_all
  obtain ⟨rfl, rfl⟩ := trodVars_none hV
  obtain ⟨c0, rfl, sz0⟩ := okWide_struct Try.underlying24 (hval 0 24 v0 rfl rfl)
  have k0 := h0
  obtain ⟨sy0, cv0, eq0, hC0⟩ := sys_of_trod sz0 h0
  obtain rfl : c0 = #[.int .i64 sy0.vars, .int .i64 sy0.sites, .int .i64 sy0.fields, cv0] := by simpa [SysV] using eq0
  have lt0 : ∀ x ∈ p0, x.block < W.heap.size := by obtain ⟨m, hm⟩ := k0; exact DataW.trod_lt m _ _ _ hm
  clear hA0 hval0
  refine (AndersenOrder_walk sy0 cv0 W hC0).mono fun e W' ⟨he, bel⟩ => ?_
  subst he
  exact ⟨_, rfl, _, _, _, [], _, [], hW', trodAll_mk1 (shut_bool Try.underlying4 _), (trodAll_cons_mk (Below.trod laidOut (by kernel_rfl) (of_decide_eq_true (by kernel_rfl)) k0 bel lt0) trodAll_mk0), rfl, bel.frame _, fun h => by cases h⟩

/-- The given statement. -/
theorem AndersenOrder_holds : Rows.AndersenOrderSaid :=
  OpenClaim.holds_of_wide 6 Try.f6 rfl rfl rfl rfl rfl rfl rfl ⟨rfl, rfl, rfl, rfl, rfl⟩ rfl rfl rfl rfl rfl (by kernel_rfl) Try.func6 (by kernel_rfl)
    (of_decide_eq_true (by kernel_rfl)) (by unfold Func.isWrapper; first | (rw [if_pos (by decide +kernel)]; kernel_rfl) | (rw [if_neg (by decide +kernel)]; exact ⟨rfl, rfl⟩))
    (fun os started H enc _ => AndersenOrder_lifted os started H enc)

end Go.Proofs.Ytdlfbkmjemamhaa
