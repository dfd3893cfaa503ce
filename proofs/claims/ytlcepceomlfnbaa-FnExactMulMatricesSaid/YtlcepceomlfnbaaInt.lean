/- Contracts of the integer functions: each Go function returns what the plain function computes, and leaves the world as it was. Conditions: stated with each theorem. -/
import Derived.Test.YtlcepceomlfnbaaPlain
import Derived.Test.YtlcepceomlfnbaaChecked
import Derived.WalkKit
import Derived.WalkLawsBesides
import Derived.WalkSpells
import Derived.LoopTactic
import Derived.Laws.BitsLemmas
import Derived.Lib.Hide
namespace Go.Proofs.Ytlcepceomlfnbaa
open Go.RowKit

theorem ret_i64 {a b : Int} (h : a = b) : Ending.returned (.int .i64 a) = .returned (.int .i64 b) := by rw [h]
theorem ret_bool {a b : Bool} (h : a = b) : Ending.returned (.bool a) = .returned (.bool b) := by rw [h]

theorem wraps_i64 (n : Int) (h₀ : 0 ≤ n) (h₁ : n < 2 ^ 63) : IntKind.i64.wrap n = n := by rw [IntKind.wrap_i64]; omega
/-- 'n & 1' of an int that is not negative. -/
theorem i64_and1 (x : Int) (h₀ : 0 ≤ x) (h₁ : x < 9223372036854775808) : bits .and .i64 x 1 = x % 2 :=
  bits_mask .i64 63 (by decide) wraps_i64 1 (by decide) x h₀ h₁

theorem impl_InRange (n lo hi : Int) (w : World) :
    Calls Try.prog 53 #[.int .i64 n, .int .i64 lo, .int .i64 hi] w fun e w' => e = .returned (.bool (Nc.inB n lo hi)) ∧ w = w' := by
  by_cases h1 : lo ≤ n <;> by_cases h2 : n ≤ hi
  all_goals
    go_enter Try.func53, Try.ntmps53
    go_wp2
    go_ret
    exact ⟨by simp [Nc.inB, h1, h2], rfl⟩

theorem spec_l1In (n lo hi : Int) (w : World) :
    Calls Try.prog 60 #[.int .i64 n, .int .i64 lo, .int .i64 hi] w fun e w' => e = .returned (.bool (Nc.inB n lo hi)) ∧ w = w' := by
  by_cases h1 : lo ≤ n <;> by_cases h2 : n ≤ hi
  all_goals
    go_enter Try.func60, Try.ntmps60
    go_wp2
    go_ret
    exact ⟨by simp [Nc.inB, h1, h2], rfl⟩

theorem impl_IsElement (x : Int) (w : World) :
    Calls Try.prog 48 #[.int .i64 x] w fun e w' => e = .returned (.bool (Nc.elB x)) ∧ w = w' := by
  go_enter Try.func48, Try.ntmps48
  go_wp2_with (go_at_call 53; refine (impl_InRange _ _ _ _).mono ?_; rintro e w' ⟨rfl, rfl⟩)
  go_ret
  exact ⟨rfl, rfl⟩

theorem spec_IsElement (x : Int) (w : World) :
    Calls Try.prog 46 #[.int .i64 x] w fun e w' => e = .returned (.bool (Nc.elB x)) ∧ w = w' := by
  go_enter Try.func46, Try.ntmps46
  go_wp2_with (go_at_call 60; refine (spec_l1In _ _ _ _).mono ?_; rintro e w' ⟨rfl, rfl⟩)
  go_ret
  exact ⟨rfl, rfl⟩

theorem spec_l4Pow (a n m : Int) (w : World) (ha : 0 ≤ a) (ham : a < m) (hn : 0 ≤ n) (hN : n ≤ 1000000000000) (hm : 2 ≤ m) (hM : m ≤ 10000) :
    Calls Try.prog 67 #[.int .i64 a, .int .i64 n, .int .i64 m] w fun e w' => e = .returned (.int .i64 (Nc.powM a n m)) ∧ w = w' := by
  have hstart := Lib.hid (Nc.powInv_start ha ham hn hm)
  go_enter Try.func67, Try.ntmps67
  go_wp2
  go_loop [0, 1, 7] (fun x k o => ∃ a' n' o' : Int, x = .int .i64 a' ∧ k = .int .i64 n' ∧ o = .int .i64 o' ∧ Nc.PowInv a n m o' a' n') (fun _ k _ => (intOf k).toNat)
  case atStart => exact ⟨a, n, 1, rfl, rfl, rfl, hstart.out⟩
  case round =>
    obtain ⟨a', n', o', rfl, rfl, rfl, hi⟩ := hrel
    have HI := Lib.hid hi
    obtain ⟨c1, c2, c3, c4, c5, c6, c7⟩ := hi
    clear c7
    have d1 : 0 ≤ o' * a' := Int.mul_nonneg c1 c3
    have d2 : o' * a' ≤ 10000 * 10000 := Int.mul_le_mul (by omega) (by omega) c3 (by omega)
    have d3 : 0 ≤ a' * a' := Int.mul_nonneg c3 c3
    have d4 : a' * a' ≤ 10000 * 10000 := Int.mul_le_mul (by omega) (by omega) c3 (by omega)
    by_cases hp : 0 < n'
    · cases hb : (bits BinOp.and IntKind.i64 n' 1 == 1)
      · have HO : Hid (n' % 2 = 0) := Lib.hid (by have := beq_eq_false_iff_ne.1 hb; rw [i64_and1 n' c5 (by omega)] at this; omega)
        go_wp2
        exact ⟨⟨_, _, _, rfl, rfl, rfl, Nc.powInv_even HI.out HO.out⟩, by simp only [intOf]; omega⟩
      · have HO : Hid (n' % 2 = 1) := Lib.hid (by have := beq_iff_eq.1 hb; rw [i64_and1 n' c5 (by omega)] at this; omega)
        go_wp2
        exact ⟨⟨_, _, _, rfl, rfl, rfl, Nc.powInv_odd HI.out HO.out⟩, by simp only [intOf]; omega⟩
    · go_wp2
      go_ret
      exact ⟨ret_i64 (Nc.powInv_end HI.out (by omega)), rfl⟩

theorem spec_PowField (a n : Int) (w : World) :
    Calls Try.prog 61 #[.int .i64 a, .int .i64 n] w fun e w' => e = .returned (.int .i64 (Nc.powF a n)) ∧ w = w' := by
  cases h1 : Nc.elB a <;> cases h2 : Nc.inB n 0 1000000000000
  case true.true =>
    obtain ⟨b3, b4⟩ := Nc.inB_true h1
    obtain ⟨b5, b6⟩ := Nc.inB_true h2
    go_enter Try.func61, Try.ntmps61
    go_wp2_with (first | (go_at_call 46; refine (spec_IsElement _ _).mono ?_; rintro e w' ⟨rfl, rfl⟩) | (go_at_call 60; refine (spec_l1In _ _ _ _).mono ?_; rintro e w' ⟨rfl, rfl⟩) | (go_at_call 67; refine (spec_l4Pow _ _ _ _ (by omega) (by omega) (by omega) (by omega) (by omega) (by omega)).mono ?_; rintro e w' ⟨rfl, rfl⟩))
    go_ret
    exact ⟨ret_i64 (by simp only [Nc.powF, h1, h2, Bool.and_self, if_true]), rfl⟩
  all_goals
    go_enter Try.func61, Try.ntmps61
    go_wp2_with (first | (go_at_call 46; refine (spec_IsElement _ _).mono ?_; rintro e w' ⟨rfl, rfl⟩) | (go_at_call 60; refine (spec_l1In _ _ _ _).mono ?_; rintro e w' ⟨rfl, rfl⟩))
    go_ret
    exact ⟨ret_i64 (by simp [Nc.powF, h1, h2]), rfl⟩

end Go.Proofs.Ytlcepceomlfnbaa
