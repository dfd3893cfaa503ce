/- Contracts of the small functions over slices of slices. Conditions: stated with each theorem. -/
import Derived.Test.YtnobbojjhehdfaaVec3
import Derived.Test.YtnobbojjhehdfaaMatMem
namespace Go.Proofs.Ytnobbojjhehdfaa
open Go.RowKit
set_option maxRecDepth 100000

/-- The world has only drawn. -/
def Qt (w w' : World) : Prop := ∃ q, w' = w.drewN q
theorem Qt.refl (w : World) : Qt w w := ⟨0, rfl⟩
theorem Qt.drewN {w w' : World} (h : Qt w w') (n : Nat) : Qt w (w'.drewN n) := by
  obtain ⟨q, rfl⟩ := h; exact ⟨q + n, World.drewN_drewN _ _ _⟩
theorem Qt.cell {w w' : World} (h : Qt w w') (p : Addr) : w'.cell? p = w.cell? p := by obtain ⟨q, rfl⟩ := h; rfl
theorem Qt.size {w w' : World} (h : Qt w w') : w'.heap.size = w.heap.size := by obtain ⟨q, rfl⟩ := h; rfl
theorem Qt.below {w w' : World} (h : Qt w w') : Below w.heap.size w w' := by obtain ⟨q, rfl⟩ := h; exact below_drewN (Below.refl _ _) q
theorem quiet_dec {P : Program} {f : FuncId} {args : Array Value} {w : World} {n : Nat} {b d : Bool}
    (h : Calls P f args (w.drewN n) fun e w' => e = .returned (.bool d) ∧ Qt (w.drewN n) w') (hd : d = b) : Calls P f args (w.drewN n) fun e w'' => e = .returned (.bool b) ∧ ∃ m, w'' = w.drewN m :=
  h.mono fun _ _ ⟨he, m, hm⟩ => ⟨by rw [he, hd], n + m, by rw [hm, World.drewN_drewN]⟩
def agreeM (xs ys : List (List Int)) (k : Nat) : Prop := xs.take k = ys.take k
theorem agreeM_next {xs ys : List (List Int)} {k : Nat} {x y : List Int} (h : agreeM xs ys k) (hx : xs[k]? = some x) (hy : ys[k]? = some y) (e : x = y) : agreeM xs ys (k + 1) := by
  unfold agreeM at h ⊢; rw [take_next hx, take_next hy, h, e]
theorem agreeM_not {xs ys : List (List Int)} {k : Nat} {x y : List Int} (hx : xs[k]? = some x) (hy : ys[k]? = some y) (e : x ≠ y) : decide (xs = ys) = false := by
  simp only [decide_eq_false_iff_not]; rintro rfl; rw [hx] at hy; exact e (by injection hy)
theorem agreeM_end {xs ys : List (List Int)} {n : Nat} (h : agreeM xs ys n) (hx : xs.length = n) (hy : ys.length = n) : decide (xs = ys) = true := by
  unfold agreeM at h; rw [List.take_of_length_le (by omega), List.take_of_length_le (by omega)] at h; simp [h]
theorem lensM_not {xs ys : List (List Int)} {n m : Nat} (hx : xs.length = n) (hy : ys.length = m) (h : n ≠ m) : decide (xs = ys) = false := by
  simp only [decide_eq_false_iff_not]; rintro rfl; omega

end Go.Proofs.Ytnobbojjhehdfaa
