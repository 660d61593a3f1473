/- Plain: units. Printed by gen_view.py. -/
import Derived.Test.YtnklnklkblgnfaaGa
namespace Go.Obs
open Go.Dfl (nth nth_mem mem_nth nth_eq nth_ext take_snoc)
/-- api.Field -/
structure Vd where
  n : ByteArray
  t : ByteArray
deriving Inhabited
/-- api.Sig -/
structure Sg where
  n : ByteArray
  st : Bool
  ps : List ByteArray
  r : ByteArray
deriving Inhabited
/-- api.ClassDecl -/
structure Cl where
  n : ByteArray
  s : ByteArray
  fs : List Vd
  ms : List Sg
deriving Inhabited
/-- api.Instr -/
structure Is where
  op : Int
  d : Int
  a : Int
  b : Int
  n : Int
  c : ByteArray
  m : ByteArray
  ar : List Int
  g : Int
  ct : Int
deriving Inhabited
/-- api.Func -/
structure Fu where
  c : ByteArray
  m : ByteArray
  st : Bool
  ps : Int
  vs : List Vd
  r : ByteArray
  cd : List Is
deriving Inhabited
/-- api.Unit -/
structure Un where
  cs : List Cl
  fs : List Fu
  mn : Int
deriving Inhabited
/-! ### the allocation sites -/
/-- The sites of the first k instructions of the function with the number i. -/
def siL (i : Nat) (f : Fu) (k : Nat) : List (Int × Int × ByteArray) := (List.range k).filterMap fun j => if (nth f.cd j).op = 6 then some ((i : Int), (j : Int), (nth f.cd j).c) else none
theorem siL_zero (i : Nat) (f : Fu) : siL i f 0 = [] := rfl
theorem siL_yes {i : Nat} {f : Fu} {k : Nat} (h : (nth f.cd k).op = 6) : siL i f (k + 1) = siL i f k ++ [((i : Int), (k : Int), (nth f.cd k).c)] := by
  unfold siL; rw [List.range_succ, List.filterMap_append]; simp [h]
theorem siL_no {i : Nat} {f : Fu} {k : Nat} (h : ¬ (nth f.cd k).op = 6) : siL i f (k + 1) = siL i f k := by
  unfold siL; rw [List.range_succ, List.filterMap_append]; simp [h]
theorem siL_len (i : Nat) (f : Fu) (k : Nat) : (siL i f k).length ≤ k := Nat.le_trans (List.length_filterMap_le _ _) (by simp)
/-- The sites of the first i functions, and of the first k instructions of the next one. -/
def siU (fs : List Fu) (i k : Nat) : List (Int × Int × ByteArray) := ((List.range i).flatMap fun a => siL a (nth fs a) (nth fs a).cd.length) ++ siL i (nth fs i) k
theorem siU_next (fs : List Fu) (i : Nat) : siU fs (i + 1) 0 = siU fs i (nth fs i).cd.length := by
  unfold siU
  rw [List.range_succ, List.flatMap_append, siL_zero]; simp
theorem siU_yes {fs : List Fu} {i k : Nat} (h : (nth (nth fs i).cd k).op = 6) : siU fs i (k + 1) = siU fs i k ++ [((i : Int), (k : Int), (nth (nth fs i).cd k).c)] := by
  unfold siU; rw [siL_yes h, List.append_assoc]
theorem siU_no {fs : List Fu} {i k : Nat} (h : ¬ (nth (nth fs i).cd k).op = 6) : siU fs i (k + 1) = siU fs i k := by
  unfold siU; rw [siL_no h]
/-- All instructions, counted. -/
def cdN (fs : List Fu) : Nat := (fs.map fun f => f.cd.length).sum
theorem siU_len {fs : List Fu} {i k : Nat} (hi : i < fs.length) (hk : k ≤ (nth fs i).cd.length) : (siU fs i k).length ≤ cdN fs := by
  have key : ∀ n, n ≤ fs.length → ((List.range n).flatMap fun a => siL a (nth fs a) (nth fs a).cd.length).length ≤ ((fs.take n).map fun f => f.cd.length).sum := by
    intro n
    induction n with
    | zero => simp
    | succ n ih =>
      intro hn
      rw [take_snoc _ _ (by omega), List.range_succ, List.flatMap_append, List.length_append, List.map_append, List.sum_append]
      have := ih (by omega)
      have := siL_len n (nth fs n) (nth fs n).cd.length
      simp at *
      omega
  have h1 := key i (by omega)
  have h2 := siL_len i (nth fs i) k
  have h3 : ((fs.take i).map fun f => f.cd.length).sum + (nth fs i).cd.length ≤ (fs.map fun f => f.cd.length).sum := by
    conv => rhs; rw [← List.take_append_drop i fs, List.map_append, List.sum_append]
    have : fs.drop i = nth fs i :: fs.drop (i + 1) := by rw [nth_eq _ _ hi]; exact (List.getElem_cons_drop hi).symm
    rw [this]
    simp
  unfold siU cdN
  rw [List.length_append]
  omega
/-- The allocation sites of a unit. -/
def sites (u : Un) : List (Int × Int × ByteArray) := siU u.fs u.fs.length 0
end Go.Obs
