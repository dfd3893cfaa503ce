/- More on the plain functions: lengths of what is read. No program in sight. Conditions: stated with each theorem. -/
import Derived.Test.YtgnngecfkocjhaaPlain
namespace Go.Proofs.Ytgnngecfkocjhaa.Nc

theorem readB_len (zs : List Int) (off most : Int) : (readB zs off most).1.length ≤ zs.length := by
  unfold readB
  split
  · simp
  · simp; omega
theorem decL_len (zs : List Int) (k : Nat) (off : Int) (o : List Int) : (decL zs k off o).1.length ≤ o.length + k := by
  induction k generalizing off o with
  | zero => simp [decL]
  | succ k ih =>
    rw [decL]
    split
    · have := ih (readU zs off).2.1 (o ++ [(readU zs off).1]); simp at this; omega
    · simp
theorem decI_len (zs : List Int) (off count : Int) : (decI zs off count).1.length ≤ 100 := by
  unfold decI
  split
  · rename_i h
    simp only [Bool.and_eq_true] at h
    have := inB_true h.1
    have := decL_len zs count.toNat off []
    simp at this; omega
  · simp

end Go.Proofs.Ytgnngecfkocjhaa.Nc
