/- Contracts of the integer functions: each Go function returns what the plain function computes, and leaves the world as it was. Conditions: stated with each theorem. -/
import Derived.Test.YtgnngecfkocjhaaPlain
import Derived.Test.YtgnngecfkocjhaaChecked
import Derived.WalkKit
import Derived.WalkLawsBesides
import Derived.WalkSpells
import Derived.LoopTactic
import Derived.Laws.BitsLemmas
import Derived.Lib.Hide
namespace Go.Proofs.Ytgnngecfkocjhaa
open Go.RowKit

theorem ret_i64 {a b : Int} (h : a = b) : Ending.returned (.int .i64 a) = .returned (.int .i64 b) := by rw [h]
theorem ret_bool {a b : Bool} (h : a = b) : Ending.returned (.bool a) = .returned (.bool b) := by rw [h]

theorem wraps_i64 (n : Int) (h₀ : 0 ≤ n) (h₁ : n < 2 ^ 63) : IntKind.i64.wrap n = n := by rw [IntKind.wrap_i64]; omega
/-- 'n & 1' of an int that is not negative. -/
theorem i64_and1 (x : Int) (h₀ : 0 ≤ x) (h₁ : x < 9223372036854775808) : bits .and .i64 x 1 = x % 2 :=
  bits_mask .i64 63 (by decide) wraps_i64 1 (by decide) x h₀ h₁

theorem impl_InRange (n lo hi : Int) (w : World) :
    Calls Try.prog 56 #[.int .i64 n, .int .i64 lo, .int .i64 hi] w fun e w' => e = .returned (.bool (Nc.inB n lo hi)) ∧ w = w' := by
  by_cases h1 : lo ≤ n <;> by_cases h2 : n ≤ hi
  all_goals
    go_enter Try.func56, Try.ntmps56
    go_wp2
    go_ret
    exact ⟨by simp [Nc.inB, h1, h2], rfl⟩

theorem spec_l1In (n lo hi : Int) (w : World) :
    Calls Try.prog 54 #[.int .i64 n, .int .i64 lo, .int .i64 hi] w fun e w' => e = .returned (.bool (Nc.inB n lo hi)) ∧ w = w' := by
  by_cases h1 : lo ≤ n <;> by_cases h2 : n ≤ hi
  all_goals
    go_enter Try.func54, Try.ntmps54
    go_wp2
    go_ret
    exact ⟨by simp [Nc.inB, h1, h2], rfl⟩

theorem spec_Max (a b : Int) (w : World) :
    Calls Try.prog 60 #[.int .i64 a, .int .i64 b] w fun e w' => e = .returned (.int .i64 (Nc.maxI a b)) ∧ w = w' := by
  by_cases h : a < b
  all_goals
    go_enter Try.func60, Try.ntmps60
    go_wp2
    go_ret
    exact ⟨ret_i64 (by unfold Nc.maxI; split <;> omega), rfl⟩

theorem impl_Mod (p q : Int) (w : World) :
    Calls Try.prog 67 #[.int .i64 p, .int .i64 q] w fun e w' => e = .returned (.int .i64 (Nc.modI p q)) ∧ w = w' := by
  cases h2 : Nc.inB q 1 1000000000000
  · go_enter Try.func67, Try.ntmps67
    go_wp2_with (go_at_call 56; refine (impl_InRange _ _ _ _).mono ?_; rintro e w' ⟨rfl, rfl⟩)
    go_ret
    exact ⟨ret_i64 (by simp [Nc.modI, h2]), rfl⟩
  · obtain ⟨b5, b6⟩ := Nc.inB_true h2
    obtain ⟨b1, b2⟩ := Nc.modI_bd (p := p) h2
    obtain ⟨b3, b4⟩ := Nc.modI_lo (p := p) h2
    go_enter Try.func67, Try.ntmps67
    go_wp2_with (go_at_call 56; refine (impl_InRange _ _ _ _).mono ?_; rintro e w' ⟨rfl, rfl⟩)
    go_ret
    exact ⟨ret_i64 (Nc.modI_yes h2), rfl⟩

theorem spec_Mod (p q : Int) (w : World) :
    Calls Try.prog 64 #[.int .i64 p, .int .i64 q] w fun e w' => e = .returned (.int .i64 (Nc.modI p q)) ∧ w = w' := by
  cases h2 : Nc.inB q 1 1000000000000
  · go_enter Try.func64, Try.ntmps64
    go_wp2_with (go_at_call 54; refine (spec_l1In _ _ _ _).mono ?_; rintro e w' ⟨rfl, rfl⟩)
    go_ret
    exact ⟨ret_i64 (by simp [Nc.modI, h2]), rfl⟩
  · obtain ⟨b5, b6⟩ := Nc.inB_true h2
    obtain ⟨b1, b2⟩ := Nc.modI_bd (p := p) h2
    obtain ⟨b3, b4⟩ := Nc.modI_lo (p := p) h2
    go_enter Try.func64, Try.ntmps64
    go_wp2_with (go_at_call 54; refine (spec_l1In _ _ _ _).mono ?_; rintro e w' ⟨rfl, rfl⟩)
    go_ret
    exact ⟨ret_i64 (Nc.modI_yes h2), rfl⟩

theorem impl_IsElement (x : Int) (w : World) :
    Calls Try.prog 66 #[.int .i64 x] w fun e w' => e = .returned (.bool (Nc.elB x)) ∧ w = w' := by
  go_enter Try.func66, Try.ntmps66
  go_wp2_with (go_at_call 56; refine (impl_InRange _ _ _ _).mono ?_; rintro e w' ⟨rfl, rfl⟩)
  go_ret
  exact ⟨rfl, rfl⟩

theorem spec_IsElement (x : Int) (w : World) :
    Calls Try.prog 69 #[.int .i64 x] w fun e w' => e = .returned (.bool (Nc.elB x)) ∧ w = w' := by
  go_enter Try.func69, Try.ntmps69
  go_wp2_with (go_at_call 54; refine (spec_l1In _ _ _ _).mono ?_; rintro e w' ⟨rfl, rfl⟩)
  go_ret
  exact ⟨rfl, rfl⟩

end Go.Proofs.Ytgnngecfkocjhaa
