/- Contracts of the functions that make or write slices: unit vectors, bytes as integers, marks. Conditions: stated with each theorem. -/
import Derived.Test.YtklgjhhlcpfkoaaDoorVec2
namespace Go.Proofs.YtklgjhhlcpfkoaaDoor
open Go.RowKit

theorem Tryd.info_int : (Tryd.prog.info? 3).map (fun i => (i.zero, i.size, i.bytes)) = some (some (.int .i64 0), 1, 8) := by kernel_rfl

/-- The first j elements are the marks, the others are as they were. -/
def halfM (f : Int → Nat → List Int) (kd : IntKind) (xs : List Value) (k : Int) (j : Nat) : List Value := (f k j).map (.int kd) ++ xs.drop j
theorem halfM_at {f : Int → Nat → List Int} (hf : ∀ k n, (f k n).length = n) {kd : IntKind} {xs : List Value} {k : Int} {j : Nat} {u : Value} (h : xs[j]? = some u) : (halfM f kd xs k j)[j]? = some u := by
  unfold halfM
  rw [List.getElem?_append_right (by simp [hf]), List.length_map, hf, Nat.sub_self, List.getElem?_drop, Nat.add_zero, h]
theorem halfM_next {f : Int → Nat → List Int} (hf : ∀ k n, (f k n).length = n) {kd : IntKind} {xs : List Value} {k x : Int} {j : Nat} (hj : j < xs.length) (hx : f k (j + 1) = f k j ++ [x]) :
    (halfM f kd xs k j).set j (.int kd x) = halfM f kd xs k (j + 1) := by
  unfold halfM
  rw [List.set_append, if_neg (by simp [hf]), List.length_map, hf, Nat.sub_self, List.drop_eq_getElem_cons hj, List.set_cons_zero, hx]
  simp
theorem halfM_full {f : Int → Nat → List Int} {kd : IntKind} {xs : List Value} {k : Int} {n : Nat} (h : xs.length = n) : halfM f kd xs k n = (f k n).map (.int kd) := by
  unfold halfM; rw [List.drop_of_length_le (by omega), List.append_nil]
theorem halfM_zero {f : Int → Nat → List Int} (hf : ∀ k n, (f k n).length = n) {kd : IntKind} {xs : List Value} {k : Int} : halfM f kd xs k 0 = xs := by
  unfold halfM; rw [List.eq_nil_of_length_eq_zero (hf k 0)]; simp
theorem marks_next (k : Int) (n : Nat) : Nc.marks k (n + 1) = Nc.marks k n ++ [k + n] := by simp [Nc.marks, List.range_succ]
theorem marks8_next (k : Int) (n : Nat) : Nc.marks8 k (n + 1) = Nc.marks8 k n ++ [(k + n) % 256] := by simp [Nc.marks8, List.range_succ]

theorem unit_set (n j : Nat) (h : j < n) : (List.replicate n (Value.int .i64 0)).set j (.int .i64 1) = (Nc.unitTo (j : Int) n).map (.int .i64) := by
  apply List.ext_getElem?
  intro i
  rw [List.getElem?_set, List.getElem?_map, Nc.unitTo, List.getElem?_map]
  by_cases hi : i < n
  · by_cases hij : j = i
    · subst hij; simp [hi]
    · have : ¬ ((i : Int) = j) := by omega
      simp [hij, hi, this]
  · have h1 : ¬ j = i := by omega
    simp [hi, h1]

end Go.Proofs.YtklgjhhlcpfkoaaDoor
