/- Contracts of the integer functions: each Go function returns what the plain function computes, and leaves the world as it was. Conditions: stated with each theorem. -/
import Derived.Test.YtklgjhhlcpfkoaaDoorPlain
import Derived.Test.YtklgjhhlcpfkoaaDoorChecked
import Derived.WalkKit
import Derived.WalkLawsBesides
import Derived.WalkSpells
import Derived.LoopTactic
import Derived.Laws.BitsLemmas
import Derived.Lib.Hide
namespace Go.Proofs.YtklgjhhlcpfkoaaDoor
open Go.RowKit

theorem ret_i64 {a b : Int} (h : a = b) : Ending.returned (.int .i64 a) = .returned (.int .i64 b) := by rw [h]
theorem ret_bool {a b : Bool} (h : a = b) : Ending.returned (.bool a) = .returned (.bool b) := by rw [h]

theorem wraps_i64 (n : Int) (h₀ : 0 ≤ n) (h₁ : n < 2 ^ 63) : IntKind.i64.wrap n = n := by rw [IntKind.wrap_i64]; omega
/-- 'n & 1' of an int that is not negative. -/
theorem i64_and1 (x : Int) (h₀ : 0 ≤ x) (h₁ : x < 9223372036854775808) : bits .and .i64 x 1 = x % 2 :=
  bits_mask .i64 63 (by decide) wraps_i64 1 (by decide) x h₀ h₁

theorem impl_InRange (n lo hi : Int) (w : World) :
    Calls Tryd.prog 18 #[.int .i64 n, .int .i64 lo, .int .i64 hi] w fun e w' => e = .returned (.bool (Nc.inB n lo hi)) ∧ w = w' := by
  by_cases h1 : lo ≤ n <;> by_cases h2 : n ≤ hi
  all_goals
    go_enter Tryd.func18, Tryd.ntmps18
    go_wp2
    go_ret
    exact ⟨by simp [Nc.inB, h1, h2], rfl⟩

theorem spec_l1In (n lo hi : Int) (w : World) :
    Calls Tryd.prog 16 #[.int .i64 n, .int .i64 lo, .int .i64 hi] w fun e w' => e = .returned (.bool (Nc.inB n lo hi)) ∧ w = w' := by
  by_cases h1 : lo ≤ n <;> by_cases h2 : n ≤ hi
  all_goals
    go_enter Tryd.func16, Tryd.ntmps16
    go_wp2
    go_ret
    exact ⟨by simp [Nc.inB, h1, h2], rfl⟩

theorem impl_CeilDiv (a b : Int) (w : World) :
    Calls Tryd.prog 13 #[.int .i64 a, .int .i64 b] w fun e w' => e = .returned (.int .i64 (Nc.ceilDiv a b)) ∧ w = w' := by
  cases h1 : Nc.inB a 0 1000000000000 <;> cases h2 : Nc.inB b 1 1000000000000
  case true.true =>
    have b1 := Nc.inB_true h1
    have b2 := Nc.inB_true h2
    obtain ⟨b3, b4⟩ := b1
    obtain ⟨b5, b6⟩ := b2
    go_enter Tryd.func13, Tryd.ntmps13
    go_wp2_with (go_at_call 18; refine (impl_InRange _ _ _ _).mono ?_; rintro e w' ⟨rfl, rfl⟩)
    go_ret
    exact ⟨ret_i64 (by simp [Nc.ceilDiv, h1, h2]), rfl⟩
  all_goals
    go_enter Tryd.func13, Tryd.ntmps13
    go_wp2_with (go_at_call 18; refine (impl_InRange _ _ _ _).mono ?_; rintro e w' ⟨rfl, rfl⟩)
    go_ret
    exact ⟨ret_i64 (by simp [Nc.ceilDiv, h1, h2]), rfl⟩

theorem impl_Mod (p q : Int) (w : World) :
    Calls Tryd.prog 14 #[.int .i64 p, .int .i64 q] w fun e w' => e = .returned (.int .i64 (Nc.modI p q)) ∧ w = w' := by
  cases h2 : Nc.inB q 1 1000000000000
  · go_enter Tryd.func14, Tryd.ntmps14
    go_wp2_with (go_at_call 18; refine (impl_InRange _ _ _ _).mono ?_; rintro e w' ⟨rfl, rfl⟩)
    go_ret
    exact ⟨ret_i64 (by simp [Nc.modI, h2]), rfl⟩
  · obtain ⟨b5, b6⟩ := Nc.inB_true h2
    obtain ⟨b1, b2⟩ := Nc.modI_bd (p := p) h2
    obtain ⟨b3, b4⟩ := Nc.modI_lo (p := p) h2
    go_enter Tryd.func14, Tryd.ntmps14
    go_wp2_with (go_at_call 18; refine (impl_InRange _ _ _ _).mono ?_; rintro e w' ⟨rfl, rfl⟩)
    go_ret
    exact ⟨ret_i64 (Nc.modI_yes h2), rfl⟩

end Go.Proofs.YtklgjhhlcpfkoaaDoor
