/- Plain laws of the cipher and of the keyed hash. No program in sight. Conditions: stated with each theorem. -/
import Derived.Test.YtnobbojjhehdfaaCry
import Derived.Test.YtnobbojjhehdfaaPlainF
namespace Go.Proofs.Ytnobbojjhehdfaa
open Go.RowKit
set_option maxRecDepth 100000

theorem Nc.encB_len (k : Int) (zs : List Int) : (Nc.encB k zs).length = zs.length := by simp [Nc.encB]
theorem Nc.decB_len (k : Int) (zs : List Int) : (Nc.decB k zs).length = zs.length := by simp [Nc.decB]
theorem Nc.encB_byte (k : Int) (zs : List Int) : ∀ x ∈ Nc.encB k zs, 0 ≤ x ∧ x ≤ 255 := by
  intro x hx
  obtain ⟨i, hi, rfl⟩ := List.mem_mapIdx.1 hx
  unfold Nc.encAt; omega
theorem Nc.decB_byte (k : Int) (zs : List Int) : ∀ x ∈ Nc.decB k zs, 0 ≤ x ∧ x ≤ 255 := by
  intro x hx
  obtain ⟨i, hi, rfl⟩ := List.mem_mapIdx.1 hx
  unfold Nc.decAt; omega
theorem Nc.cipher_dec (k : Int) {zs : List Int} (h : ∀ x ∈ zs, 0 ≤ x ∧ x ≤ 255) : Nc.decB k (Nc.encB k zs) = zs := by
  unfold Nc.decB Nc.encB
  apply List.ext_getElem?
  intro i
  rw [List.getElem?_mapIdx, List.getElem?_mapIdx]
  cases hx : zs[i]? with
  | none => rfl
  | some x =>
    have := h x (List.mem_of_getElem? hx)
    simp only [Option.map_some, Option.some.injEq, Nc.encAt, Nc.decAt]
    omega
theorem Nc.cipher_enc (k : Int) {zs : List Int} (h : ∀ x ∈ zs, 0 ≤ x ∧ x ≤ 255) : Nc.encB k (Nc.decB k zs) = zs := by
  unfold Nc.decB Nc.encB
  apply List.ext_getElem?
  intro i
  rw [List.getElem?_mapIdx, List.getElem?_mapIdx]
  cases hx : zs[i]? with
  | none => rfl
  | some x =>
    have := h x (List.mem_of_getElem? hx)
    simp only [Option.map_some, Option.some.injEq, Nc.encAt, Nc.decAt]
    omega
/-- One value changed: the keyed hash is another. -/
theorem Nc.keyed_differs (k : Int) {l : List Int} {i : Nat} {x t : Int} (hx : l[i]? = some x) (t0 : 0 ≤ t) (t1 : t ≤ 255) : Nc.keyed k (l.set i (Nc.modI (x + 1 + t) 2147483647)) ≠ Nc.keyed k l := by
  obtain ⟨hi, he⟩ := List.getElem?_eq_some_iff.1 hx
  have e1 : l = l.take i ++ x :: l.drop (i + 1) := by
    conv => lhs; rw [← List.take_append_drop i l]
    rw [List.drop_eq_getElem_cons hi, he]
  have e2 : ∀ y, l.set i y = l.take i ++ y :: l.drop (i + 1) := fun y => List.set_eq_take_append_cons_drop .. |>.trans (by rw [if_pos hi])
  unfold Nc.keyed
  rw [e2]
  conv => rhs; rw [e1]
  have := Nc.hash_differs ([k] ++ l.take i) (l.drop (i + 1) ++ [k]) (u := Nc.modI (x + 1 + t) 2147483647) (v := x) (by rw [Nc.modI_M]; omega)
  simpa using this
theorem Nc.derive_ok (k : Int) (s : ByteArray) : Nc.inB (Nc.derive k s) 1 2147483646 = true := by
  have := Nc.keyed_bd k (((Nc.bytesOf s).length : Int) :: Nc.bytesOf s)
  unfold Nc.derive Nc.maxI
  split
  · exact Nc.inB_of (by omega) (by omega)
  · decide

end Go.Proofs.Ytnobbojjhehdfaa
