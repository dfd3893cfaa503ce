/- Contracts of the marks on slices of slices. Conditions: stated with each theorem. -/
import Derived.Test.YtnobbojjhehdfaaMat2
namespace Go.Proofs.Ytnobbojjhehdfaa
open Go.RowKit
set_option maxRecDepth 100000

def Nc.cells (rows : List (List Int)) : Nat := (rows.map List.length).sum
/-- Marks, row by row. -/
def Nc.marksM : Int → List (List Int) → List (List Int)
  | _, [] => []
  | k, r :: rs => Nc.marks k r.length :: Nc.marksM (k + r.length) rs
theorem Nc.marksM_append (k : Int) (a : List (List Int)) (r : List Int) : Nc.marksM k (a ++ [r]) = Nc.marksM k a ++ [Nc.marks (k + Nc.cells a) r.length] := by
  induction a generalizing k with
  | nil => simp [Nc.marksM, Nc.cells]
  | cons x a ih =>
    simp only [List.cons_append, Nc.marksM, ih]
    have : k + (x.length : Int) + Nc.cells a = k + Nc.cells (x :: a) := by unfold Nc.cells; simp; omega
    rw [this]
theorem Nc.marksM_len (k : Int) (a : List (List Int)) : (Nc.marksM k a).length = a.length := by
  induction a generalizing k with
  | nil => rfl
  | cons x a ih => simp [Nc.marksM, ih]
theorem Nc.marksM_cells (k : Int) (a : List (List Int)) : Nc.cells (Nc.marksM k a) = Nc.cells a := by
  induction a generalizing k with
  | nil => rfl
  | cons x a ih =>
    have := ih (k + x.length)
    unfold Nc.cells at this ⊢
    simp only [Nc.marksM, List.map_cons, List.sum_cons, Nc.marks_len, this]
theorem Nc.marksM_marksM (k j : Int) (a : List (List Int)) : Nc.marksM k (Nc.marksM j a) = Nc.marksM k a := by
  induction a generalizing k j with
  | nil => rfl
  | cons x a ih => simp [Nc.marksM, Nc.marks_len, ih]
def halfK (rows : List (List Int)) (k0 : Int) (j : Nat) : List (List Int) := Nc.marksM k0 (rows.take j) ++ rows.drop j
theorem halfK_zero (rows : List (List Int)) (k0 : Int) : halfK rows k0 0 = rows := by simp [halfK, Nc.marksM]
theorem halfK_full {rows : List (List Int)} {k0 : Int} {n : Nat} (h : rows.length = n) : halfK rows k0 n = Nc.marksM k0 rows := by
  unfold halfK; rw [List.take_of_length_le (by omega), List.drop_of_length_le (by omega), List.append_nil]
theorem halfK_at {rows : List (List Int)} {k0 : Int} {j : Nat} {xs : List Int} (h : rows[j]? = some xs) : (halfK rows k0 j)[j]? = some xs := by
  have hj := (List.getElem?_eq_some_iff.1 h).1
  have hl : (Nc.marksM k0 (rows.take j)).length = j := by rw [Nc.marksM_len]; simp; omega
  unfold halfK
  rw [List.getElem?_append_right (by omega), hl, Nat.sub_self, List.getElem?_drop, Nat.add_zero, h]
theorem halfK_next {rows : List (List Int)} {k0 : Int} {j : Nat} {xs : List Int} (h : rows[j]? = some xs) :
    (halfK rows k0 j).set j (Nc.marks (k0 + Nc.cells (rows.take j)) xs.length) = halfK rows k0 (j + 1) := by
  have hj := (List.getElem?_eq_some_iff.1 h).1
  have hl : (Nc.marksM k0 (rows.take j)).length = j := by rw [Nc.marksM_len]; simp; omega
  unfold halfK
  rw [List.set_append, if_neg (by omega), hl, Nat.sub_self, List.drop_eq_getElem_cons hj, List.set_cons_zero, take_next h, Nc.marksM_append]
  simp
theorem Nc.cells_next {rows : List (List Int)} {j : Nat} {xs : List Int} (h : rows[j]? = some xs) : Nc.cells (rows.take (j + 1)) = Nc.cells (rows.take j) + xs.length := sum_next h
theorem Nc.cells_take_le (rows : List (List Int)) (j : Nat) : Nc.cells (rows.take j) ≤ Nc.cells rows := sum_take_le rows j

end Go.Proofs.Ytnobbojjhehdfaa
