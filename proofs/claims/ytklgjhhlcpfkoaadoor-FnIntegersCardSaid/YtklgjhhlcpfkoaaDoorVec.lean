/- Contracts of the small functions over slices of integers and of bytes. Conditions: stated with each theorem. -/
import Derived.Test.YtklgjhhlcpfkoaaDoorMem
import Derived.Test.YtklgjhhlcpfkoaaDoorInt
import Derived.Deep.QuietTactic
import Derived.BigQuiet
import Derived.Laws.Closers25b
namespace Go.Proofs.YtklgjhhlcpfkoaaDoor
open Go.RowKit

/-- The call hands back a slice in new memory that reads as xs; nothing that was there has turned. -/
def Fresh (e : TypeId) (w : World) (xs : List Value) (r : Ending) (w' : World) : Prop :=
  ∃ A n c, r = .returned (.slice A n c) ∧ Own w' w.heap.size w'.heap.size e A n c xs ∧ Below w.heap.size w w'
/-- The call hands back r; nothing that was there has turned. -/
def Says (v : Value) (w : World) (r : Ending) (w' : World) : Prop := r = .returned v ∧ Below w.heap.size w w'
/-- The call has written one block alone. -/
def Wrote (v : Value) (w : World) (A : Option Addr) (r : Ending) (w' : World) : Prop := r = .returned v ∧ w.grownBy w' (A.map (·.block))

theorem below_drewN {B : Nat} {a w : World} (h : Below B a w) (n : Nat) : Below B a (w.drewN n) := ⟨h.os, h.tape, h.output, h.size, h.block⟩

/-- k elements copied, the rest still zero. -/
def half (kd : IntKind) (zs : List Int) (n k : Nat) : List Value := (zs.take k).map (.int kd) ++ List.replicate (n - k) (.int kd 0)
theorem half_zero (kd : IntKind) (zs : List Int) (n : Nat) : half kd zs n 0 = List.replicate n (.int kd 0) := by simp [half]
theorem half_full (kd : IntKind) (zs : List Int) (n : Nat) (h : zs.length = n) : half kd zs n n = zs.map (.int kd) := by simp [half, ← h]
theorem half_next {kd : IntKind} {zs : List Int} {n k : Nat} {x : Int} (h : zs.length = n) (hx : zs[k]? = some x) : (half kd zs n k).set k (.int kd x) = half kd zs n (k + 1) := by
  have hk : k < n := by rw [← h]; exact (List.getElem?_eq_some_iff.1 hx).1
  have hl : ((zs.take k).map (Value.int kd)).length = k := by simp; omega
  unfold half
  rw [take_next hx, List.map_append, List.set_append, if_neg (by rw [hl]; omega), hl, Nat.sub_self]
  rw [show n - k = (n - (k + 1)) + 1 by omega, List.replicate_succ, List.set_cons_zero]
  simp
theorem half_at {kd : IntKind} {zs : List Int} {n k : Nat} (h : zs.length = n) (hk : k < n) : (half kd zs n k)[k]? = some (.int kd 0) := by
  have hl : ((zs.take k).map (Value.int kd)).length = k := by simp; omega
  unfold half
  rw [List.getElem?_append_right (by omega), hl, Nat.sub_self, List.getElem?_replicate, if_pos (by omega)]

/-- The first k elements agree. -/
def agree (xs ys : List Int) (k : Nat) : Prop := xs.take k = ys.take k
theorem agree_next {xs ys : List Int} {k : Nat} {x y : Int} (h : agree xs ys k) (hx : xs[k]? = some x) (hy : ys[k]? = some y) (e : x = y) : agree xs ys (k + 1) := by
  unfold agree at h ⊢; rw [take_next hx, take_next hy, h, e]
theorem agree_not {xs ys : List Int} {k : Nat} {x y : Int} (hx : xs[k]? = some x) (hy : ys[k]? = some y) (e : x ≠ y) : decide (xs = ys) = false := by
  simp only [decide_eq_false_iff_not]; rintro rfl; rw [hx] at hy; exact e (by injection hy)
theorem agree_end {xs ys : List Int} {n : Nat} (h : agree xs ys n) (hx : xs.length = n) (hy : ys.length = n) : decide (xs = ys) = true := by
  unfold agree at h; rw [List.take_of_length_le (by omega), List.take_of_length_le (by omega)] at h; simp [h]
theorem lens_not {xs ys : List Int} {n m : Nat} (hx : xs.length = n) (hy : ys.length = m) (h : n ≠ m) : decide (xs = ys) = false := by
  simp only [decide_eq_false_iff_not]; rintro rfl; omega

end Go.Proofs.YtklgjhhlcpfkoaaDoor
