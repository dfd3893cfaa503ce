/- Contracts of the rank, and of a list that is asked for a number. Conditions: stated with each theorem. -/
import Derived.Test.YtnobbojjhehdfaaRed
namespace Go.Proofs.Ytnobbojjhehdfaa
open Go.RowKit
set_option maxRecDepth 100000

theorem spec_RowReduce (A : Option Addr) (n c : Nat) (V : List (List Int)) (q : Nat) (w : World) (hr : RdM w w.heap.size A n V) (hs : Nc.shape V n q) (hF : Nc.Full V n q) (h0 : 0 < n) (hn : n ≤ 40) (hq : q ≤ 40) :
    Calls Try.prog 117 #[.slice A n c] w (Shorts (min n q) w) := by
  have HV := Lib.hid (Nc.shape_mat hs hn)
  have HC := Lib.hid (Nc.shape_cols hs h0)
  have HS := Lib.hid hs
  have HF := Lib.hid hF
  have HROWS := Lib.hid (show ∀ xs ∈ V, xs.length ≤ 9223372036854775806 from fun xs hxs => by rw [(hs.2 xs hxs).2]; omega)
  clear hs hF
  go_enter Try.func117, Try.ntmps117
  go_wp2_with fail
  refine (spec_IsValidMatrix _ _ _ V _ hr (by omega) HROWS.out).mono ?_
  rintro e w1 ⟨rfl, hqt⟩
  rw [HV.out]
  have hr1 := hr.qt hqt
  have hb1 := hqt.below
  have hs1 := hb1.size
  clear hqt
  go_wp2_with fail
  refine (spec_ColumnsOf _ _ _ V _ hr1).mono ?_
  rintro e w' ⟨rfl, rfl⟩
  rw [HC.out]
  go_wp2_with fail
  refine (spec_l7Reduce _ _ _ V q _ hr1 HS.out HF.out hn hq).mono ?_
  rintro e w2 ⟨A2, c2, rfl, hb2⟩
  go_wp2_with fail
  go_ret
  exact ⟨_, _, rfl, hb1.trans (hb2.mono hs1)⟩
theorem spec_Rank (A : Option Addr) (n c : Nat) (V : List (List Int)) (q : Nat) (w : World) (hr : RdM w w.heap.size A n V) (hs : Nc.shape V n q) (hF : Nc.Full V n q) (h0 : 0 < n) (hn : n ≤ 40) (hq : q ≤ 40) :
    Calls Try.prog 77 #[.slice A n c] w (Says (.int .i64 ((min n q : Nat) : Int)) w) := by
  go_enter Try.func77, Try.ntmps77
  go_wp2_with fail
  refine (spec_RowReduce _ _ _ V q _ hr hs hF h0 hn hq).mono ?_
  rintro e w2 ⟨A2, c2, rfl, hb2⟩
  go_wp2_with fail
  go_ret
  exact ⟨rfl, hb2⟩
/-- The first k numbers of a list are not x. -/
def notIn (zs : List Int) (x : Int) (k : Nat) : Prop := x ∉ zs.take k
theorem notIn_next {zs : List Int} {x y : Int} {k : Nat} (h : notIn zs x k) (hy : zs[k]? = some y) (hne : y ≠ x) : notIn zs x (k + 1) := by
  unfold notIn at h ⊢
  rw [take_next hy]
  intro hm
  rcases List.mem_append.1 hm with hm | hm
  · exact h hm
  · exact hne (List.mem_singleton.1 hm).symm
set_option maxHeartbeats 1000000 in
theorem laws_contains (A : Option Addr) (n c : Nat) (zs : List Int) (x : Int) (w : World) (hr : Rd w w.heap.size A n (zs.map (.int .i64))) (hn : n ≤ 1048576) :
    Calls Try.prog 74 #[.slice A n c, .int .i64 x] w fun e w' => e = .returned (.bool (decide (x ∈ zs))) ∧ w = w' := by
  have HL := Lib.hid hr.ilen
  go_enter Try.func74, Try.ntmps74
  go_wp2
  go_loop [5] (fun i => ∃ k : Nat, k ≤ n ∧ i = .int .i64 k ∧ Hid (notIn zs x k)) (fun i => n - (intOf i).toNat)
  case atStart => exact ⟨0, Nat.zero_le _, rfl, Lib.hid (by unfold notIn; simp)⟩
  case round =>
    obtain ⟨k, hk, rfl, hI⟩ := hrel
    by_cases hlt : k < n
    · obtain ⟨b, o, y, rfl, hbB, hy, hc⟩ := hr.int hlt
      by_cases hxy : y = x
      · have HE := Lib.hid (show decide (x ∈ zs) = true from decide_eq_true (by rw [← hxy]; exact List.mem_of_getElem? hy))
        have e0 : (y == x) = true := by simp [hxy]
        clear hy hxy
        go_wp2
        go_ret
        exact ⟨ret_bool HE.out.symm, rfl⟩
      · have HN := Lib.hid (notIn_next hI.out hy hxy)
        have e0 : (y == x) = false := by simpa using hxy
        clear hy hxy
        go_wp2
        go_round
        case rel => exact ⟨k + 1, by omega, by go_num, HN⟩
        case measure => simp [intOf]; omega
    · obtain rfl : k = n := by omega
      have HE := Lib.hid (show decide (x ∈ zs) = false from decide_eq_false (by have t := hI.out; unfold notIn at t; rw [List.take_of_length_le (by rw [HL.out]; exact Nat.le_refl _)] at t; exact t))
      go_wp2
      go_ret
      exact ⟨ret_bool HE.out.symm, rfl⟩

end Go.Proofs.Ytnobbojjhehdfaa
