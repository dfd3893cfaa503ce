/- Contracts of the sizes and copies of slices of slices, of columns and dot products. Conditions: stated with each theorem. -/
import Derived.Test.YtnobbojjhehdfaaMat
namespace Go.Proofs.Ytnobbojjhehdfaa
open Go.RowKit
set_option maxRecDepth 100000

/-- How many rows and numbers a matrix holds. -/
def Nc.total (rows : List (List Int)) : Nat := rows.length + (rows.map List.length).sum
def Nc.szR (rows : List (List Int)) (left : Int) : Int := if left < Nc.total rows then -1 else left - Nc.total rows
def Nc.cols : List (List Int) → Nat
  | [] => 0
  | r :: _ => r.length
theorem sum_next {rows : List (List Int)} {k : Nat} {xs : List Int} (h : rows[k]? = some xs) : ((rows.take (k + 1)).map List.length).sum = ((rows.take k).map List.length).sum + xs.length := by
  rw [take_next h, List.map_append, List.sum_append]; simp
theorem sum_take_le (rows : List (List Int)) (k : Nat) : ((rows.take k).map List.length).sum ≤ (rows.map List.length).sum := by
  have : rows = rows.take k ++ rows.drop k := (List.take_append_drop k rows).symm
  rw [this, List.map_append, List.sum_append]
  have h2 : ((rows.take k ++ rows.drop k).take k) = rows.take k := by rw [List.take_append_drop]
  rw [h2]; omega
theorem le_sum_of_mem (l : List Nat) (x : Nat) (h : x ∈ l) : x ≤ l.sum := by
  induction l with
  | nil => cases h
  | cons y l ih =>
    rw [List.sum_cons]
    rcases List.mem_cons.1 h with rfl | h
    · omega
    · have := ih h; omega
theorem Nc.total_row {rows : List (List Int)} {xs : List Int} (h : xs ∈ rows) : xs.length ≤ Nc.total rows := by
  unfold Nc.total
  have := le_sum_of_mem (rows.map List.length) xs.length (List.mem_map_of_mem h)
  omega

/-- The call hands back a slice of slices in new memory. -/
def FreshM (eI eS : TypeId) (w : World) (rows : List (List Int)) (r : Ending) (w' : World) : Prop :=
  ∃ A n c, r = .returned (.slice A n c) ∧ OwnM eI eS w' w.heap.size w'.heap.size A n c rows ∧ Below w.heap.size w w'
theorem Try.info_row : (Try.prog.info? 30).map (fun i => (i.zero, i.size, i.bytes)) = some (some (.slice none 0 0), 1, 24) := by kernel_rfl
theorem impl_ColumnsOf (A : Option Addr) (n c : Nat) (rows : List (List Int)) (w : World) (hr : RdM w w.heap.size A n rows) :
    Calls Try.prog 84 #[.slice A n c] w fun e w' => e = .returned (.int .i64 (Nc.cols rows)) ∧ w = w' := by
  have HL := Lib.hid hr.len
  by_cases h0 : n = 0
  · subst h0
    have HE := Lib.hid (show Nc.cols rows = 0 by rw [List.eq_nil_of_length_eq_zero HL.out]; rfl)
    go_enter Try.func84, Try.ntmps84
    go_wp2
    go_ret
    exact ⟨ret_i64 (by rw [HE.out]; rfl), rfl⟩
  · obtain ⟨b, o, Aj, nj, cj, xs, rfl, hbB, hx, hc, hnj, hcj, hrd⟩ := hr.at_ (show 0 < n by omega)
    have HE := Lib.hid (show Nc.cols rows = nj by
      cases rows with
      | nil => simp at hx
      | cons r rs => simp at hx; subst hx; exact hrd.ilen)
    have hq : ((n : Int) == 0) = false := by simp; omega
    have hp : 0 < n := by omega
    rw [Nat.add_zero] at hc
    clear hx hrd h0
    go_enter Try.func84, Try.ntmps84
    go_wp2
    go_ret
    exact ⟨ret_i64 (by rw [HE.out]), rfl⟩

theorem spec_ColumnsOf (A : Option Addr) (n c : Nat) (rows : List (List Int)) (w : World) (hr : RdM w w.heap.size A n rows) :
    Calls Try.prog 17 #[.slice A n c] w fun e w' => e = .returned (.int .i64 (Nc.cols rows)) ∧ w = w' := by
  have HL := Lib.hid hr.len
  by_cases h0 : n = 0
  · subst h0
    have HE := Lib.hid (show Nc.cols rows = 0 by rw [List.eq_nil_of_length_eq_zero HL.out]; rfl)
    go_enter Try.func17, Try.ntmps17
    go_wp2
    go_ret
    exact ⟨ret_i64 (by rw [HE.out]; rfl), rfl⟩
  · obtain ⟨b, o, Aj, nj, cj, xs, rfl, hbB, hx, hc, hnj, hcj, hrd⟩ := hr.at_ (show 0 < n by omega)
    have HE := Lib.hid (show Nc.cols rows = nj by
      cases rows with
      | nil => simp at hx
      | cons r rs => simp at hx; subst hx; exact hrd.ilen)
    have hq : ((n : Int) == 0) = false := by simp; omega
    have hp : 0 < n := by omega
    rw [Nat.add_zero] at hc
    clear hx hrd h0
    go_enter Try.func17, Try.ntmps17
    go_wp2
    go_ret
    exact ⟨ret_i64 (by rw [HE.out]), rfl⟩

end Go.Proofs.Ytnobbojjhehdfaa
