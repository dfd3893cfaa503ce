/- Contracts of the validity and the equality of matrices. Conditions: stated with each theorem. -/
import Derived.Test.YtnobbojjhehdfaaMat3
import Derived.Test.YtnobbojjhehdfaaDot
namespace Go.Proofs.Ytnobbojjhehdfaa
open Go.RowKit
set_option maxRecDepth 100000

def Nc.rowB (n : Nat) (r : List Int) : Bool := Nc.vecB r && decide (r.length = n)
def Nc.matB (rows : List (List Int)) : Bool := rows.all (Nc.rowB (Nc.cols rows)) && decide (rows.length ≤ 40)
def MatIs (rows : List (List Int)) (k : Nat) : Prop := rows.all (Nc.rowB (Nc.cols rows)) = (rows.drop k).all (Nc.rowB (Nc.cols rows))
theorem mat_next {rows : List (List Int)} {k : Nat} {xs : List Int} (h : MatIs rows k) (hx : rows[k]? = some xs) (hv : Nc.vecB xs = true) (hl : xs.length = Nc.cols rows) : MatIs rows (k + 1) := by
  unfold MatIs at h ⊢
  rw [h, drop_next hx, List.all_cons]
  simp [Nc.rowB, hv, hl]
theorem mat_no {rows : List (List Int)} {k : Nat} {xs : List Int} (hx : rows[k]? = some xs) (hv : Nc.vecB xs = false ∨ xs.length ≠ Nc.cols rows) : Nc.matB rows = false := by
  have : rows.all (Nc.rowB (Nc.cols rows)) = false := List.all_eq_false.2 ⟨xs, List.mem_of_getElem? hx, by rcases hv with h | h <;> simp [Nc.rowB, h]⟩
  simp [Nc.matB, this]
theorem mat_end {rows : List (List Int)} {n : Nat} (h : MatIs rows n) (hl : rows.length = n) : Nc.matB rows = decide ((n : Int) ≤ 40) := by
  unfold MatIs at h; rw [List.drop_of_length_le (by omega)] at h
  unfold Nc.matB; rw [h, hl, List.all_nil, Bool.true_and]; congr 1; exact propext (by omega)
theorem Nc.matB_row {rows : List (List Int)} (h : Nc.matB rows = true) : ∀ r ∈ rows, Nc.vecB r = true ∧ r.length = Nc.cols rows := by
  intro r hr
  simp only [Nc.matB, Bool.and_eq_true, List.all_eq_true] at h
  have := h.1 r hr
  simpa [Nc.rowB] using this
theorem Nc.matB_len {rows : List (List Int)} (h : Nc.matB rows = true) : rows.length ≤ 40 := by
  simp only [Nc.matB, Bool.and_eq_true, decide_eq_true_eq] at h; exact h.2
theorem cols_at {rows : List (List Int)} {xs : List Int} (h : rows[0]? = some xs) : Nc.cols rows = xs.length := by
  cases rows with
  | nil => simp at h
  | cons r rs => simp at h; subst h; rfl
theorem quiet_pure {P : Program} {f : FuncId} {args : Array Value} {w : World} {n : Nat} {b d : Bool}
    (h : Calls P f args (w.drewN n) fun e w' => e = .returned (.bool d) ∧ w.drewN n = w') (hd : d = b) : Calls P f args (w.drewN n) fun e w'' => e = .returned (.bool b) ∧ ∃ m, w'' = w.drewN m :=
  h.mono fun _ _ ⟨he, hm⟩ => ⟨by rw [he, hd], n, hm.symm⟩

set_option maxHeartbeats 1000000 in
theorem impl_IsValidMatrix (A : Option Addr) (n c : Nat) (rows : List (List Int)) (w : World) (hr : RdM w w.heap.size A n rows) (hn : n ≤ 9223372036854775806) (hrn : ∀ xs ∈ rows, xs.length ≤ 9223372036854775806) :
    Calls Try.prog 76 #[.slice A n c] w fun e w' => e = .returned (.bool (Nc.matB rows)) ∧ w = w' := by
  have HL := Lib.hid hr.len
  have HRN := Lib.hid hrn
  clear hrn
  go_enter Try.func76, Try.ntmps76
  go_wp2
  go_loop [7] (fun i => ∃ k : Nat, k ≤ n ∧ i = .int .i64 k ∧ MatIs rows k) (fun i => n - (intOf i).toNat)
  case atStart => exact ⟨0, Nat.zero_le _, rfl, rfl⟩
  case round =>
    obtain ⟨k, hk, rfl, hI⟩ := hrel
    by_cases hlt : k < n
    · obtain ⟨b0, o0, A0, n0, c0, xs0, hA0, _, hx0, hc0, _, _, hrd0⟩ := hr.at_ (show 0 < n by omega)
      obtain ⟨b, o, Aj, nj, cj, xs, rfl, hbB, hx, hc, _, _, hrd⟩ := hr.at_ hlt
      injection hA0 with hA0
      injection hA0 with e1 e2
      subst e1 e2
      rw [Nat.add_zero] at hc0
      have HC := Lib.hid (show Nc.cols rows = n0 by rw [cols_at hx0, hrd0.ilen])
      have HX := Lib.hid hrd.ilen
      have hnj : nj ≤ 9223372036854775806 := by rw [← hrd.ilen]; exact HRN.out xs (List.mem_of_getElem? hx)
      have hp : 0 < n := by omega
      clear hx0 hrd0
      cases hv : Nc.vecB xs
      · have HN := Lib.hid (mat_no hx (.inl hv))
        clear hx hI
        go_wp2_with fail
        refine (impl_IsValidVector _ _ _ xs _ hrd hnj).mono ?_
        rintro e w' ⟨rfl, rfl⟩
        rw [hv]
        go_wp2_with fail
        go_ret
        exact ⟨ret_bool HN.out.symm, rfl⟩
      · by_cases he : nj = n0
        · have HN := Lib.hid (mat_next hI hx hv (by rw [HX.out, HC.out, he]))
          have hq : ((nj : Int) != n0) = false := by simp [he]
          have HV := Lib.hid hv
          clear hx hI he hv
          go_wp2_with fail
          refine (impl_IsValidVector _ _ _ xs _ hrd hnj).mono ?_
          rintro e w' ⟨rfl, rfl⟩
          rw [HV.out]
          go_wp2_with fail
          go_round
          case rel => exact ⟨k + 1, by omega, by go_num, HN.out⟩
          case measure => simp [intOf]; omega
        · have HN := Lib.hid (mat_no hx (.inr (by rw [HX.out, HC.out]; exact he)))
          have hq : ((nj : Int) != n0) = true := by simp; omega
          have HV := Lib.hid hv
          clear hx hI he hv
          go_wp2_with fail
          refine (impl_IsValidVector _ _ _ xs _ hrd hnj).mono ?_
          rintro e w' ⟨rfl, rfl⟩
          rw [HV.out]
          go_wp2_with fail
          go_ret
          exact ⟨ret_bool HN.out.symm, rfl⟩
    · obtain rfl : k = n := by omega
      have HN := Lib.hid (mat_end hI HL.out)
      clear hI
      go_wp2
      go_ret
      exact ⟨ret_bool HN.out.symm, rfl⟩

set_option maxHeartbeats 1000000 in
theorem spec_IsValidMatrix (A : Option Addr) (n c : Nat) (rows : List (List Int)) (w : World) (hr : RdM w w.heap.size A n rows) (hn : n ≤ 9223372036854775806) (hrn : ∀ xs ∈ rows, xs.length ≤ 9223372036854775806) :
    Calls Try.prog 16 #[.slice A n c] w fun e w' => e = .returned (.bool (Nc.matB rows)) ∧ Qt w w' := by
  have HL := Lib.hid hr.len
  have HRN := Lib.hid hrn
  clear hrn
  go_enter Try.func16, Try.ntmps16
  go_wp2
  go_loopw [3] (fun i wr => ∃ k : Nat, k ≤ n ∧ i = .int .i64 k ∧ MatIs rows k ∧ Qt w wr) (fun i _ => n - (intOf i).toNat)
  case atStart => exact ⟨0, Nat.zero_le _, rfl, rfl, Qt.refl _⟩
  case round =>
    obtain ⟨k, hk, rfl, hI, hqt⟩ := hrel
    by_cases hlt : k < n
    · have hr1 := hr.keep fun p _ => hqt.cell p
      obtain ⟨b0, o0, A0, n0, c0, xs0, hA0, _, hx0, hc0, _, _, hrd0⟩ := hr1.at_ (show 0 < n by omega)
      obtain ⟨b, o, Aj, nj, cj, xs, rfl, hbB, hx, hc, _, _, hrd⟩ := hr1.at_ hlt
      injection hA0 with hA0
      injection hA0 with e1 e2
      subst e1 e2
      rw [Nat.add_zero] at hc0
      have HC := Lib.hid (show Nc.cols rows = n0 by rw [cols_at hx0, hrd0.ilen])
      have HX := Lib.hid hrd.ilen
      have hnj : nj ≤ 9223372036854775806 := by rw [← hrd.ilen]; exact HRN.out xs (List.mem_of_getElem? hx)
      have HRD := Lib.hid (show ∀ q, Rd (wr.drewN q) (wr.drewN q).heap.size Aj nj (xs.map (.int .i64)) from fun q => hrd.more (Nat.le_of_eq hqt.size.symm))
      have k0 : (0 : Int) ≤ k := by omega
      have k1 : (k : Int) < n := by omega
      have z1 : (0 : Int) < n := by omega
      have hp : 0 < n := by omega
      clear hx0 hrd0 hrd hr1
      cases hv : Nc.vecB xs
      · have HN := Lib.hid (mat_no hx (.inl hv))
        have HV := Lib.hid hv
        clear hx hI hv
        go_wp2
        go_quiet ((go_at_call 66; exact quiet_pure (spec_IsValidVector _ _ _ xs _ (HRD.out _) hnj) HV.out))
        go_wp2
        go_ret
        exact ⟨ret_bool HN.out.symm, hqt.drewN _⟩
      · by_cases he : nj = n0
        · have HN := Lib.hid (mat_next hI hx hv (by rw [HX.out, HC.out, he]))
          have hq : ((nj : Int) != n0) = false := by simp [he]
          have HV := Lib.hid hv
          clear hx hI he hv
          go_wp2
          go_quiet ((go_at_call 66; exact quiet_pure (spec_IsValidVector _ _ _ xs _ (HRD.out _) hnj) HV.out))
          go_wp2
          go_roundw
          case rel => exact ⟨k + 1, by omega, by go_num, HN.out, hqt.drewN _⟩
          case measure => simp [intOf]; omega
        · have HN := Lib.hid (mat_no hx (.inr (by rw [HX.out, HC.out]; exact he)))
          have hq : ((nj : Int) != n0) = true := by simp; omega
          have HV := Lib.hid hv
          clear hx hI he hv
          go_wp2
          go_quiet ((go_at_call 66; exact quiet_pure (spec_IsValidVector _ _ _ xs _ (HRD.out _) hnj) HV.out))
          go_wp2
          go_ret
          exact ⟨ret_bool HN.out.symm, hqt.drewN _⟩
    · obtain rfl : k = n := by omega
      have HN := Lib.hid (mat_end hI HL.out)
      clear hI
      go_wp2
      go_ret
      exact ⟨ret_bool HN.out.symm, hqt⟩

end Go.Proofs.Ytnobbojjhehdfaa
