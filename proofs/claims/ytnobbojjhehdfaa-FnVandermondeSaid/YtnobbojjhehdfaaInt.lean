/- Contracts of the integer functions: each Go function returns what the plain function computes, and leaves the world as it was. Conditions: stated with each theorem. -/
import Derived.Test.YtnobbojjhehdfaaPlain
import Derived.Test.YtnobbojjhehdfaaChecked
import Derived.WalkKit
import Derived.WalkLawsBesides
import Derived.WalkSpells
import Derived.LoopTactic
import Derived.Laws.BitsLemmas
import Derived.Lib.Hide
namespace Go.Proofs.Ytnobbojjhehdfaa
open Go.RowKit
set_option maxRecDepth 100000

theorem ret_i64 {a b : Int} (h : a = b) : Ending.returned (.int .i64 a) = .returned (.int .i64 b) := by rw [h]
theorem ret_bool {a b : Bool} (h : a = b) : Ending.returned (.bool a) = .returned (.bool b) := by rw [h]

theorem wraps_i64 (n : Int) (h₀ : 0 ≤ n) (h₁ : n < 2 ^ 63) : IntKind.i64.wrap n = n := by rw [IntKind.wrap_i64]; omega
/-- 'n & 1' of an int that is not negative. -/
theorem i64_and1 (x : Int) (h₀ : 0 ≤ x) (h₁ : x < 9223372036854775808) : bits .and .i64 x 1 = x % 2 :=
  bits_mask .i64 63 (by decide) wraps_i64 1 (by decide) x h₀ h₁

theorem impl_InRange (n lo hi : Int) (w : World) :
    Calls Try.prog 86 #[.int .i64 n, .int .i64 lo, .int .i64 hi] w fun e w' => e = .returned (.bool (Nc.inB n lo hi)) ∧ w = w' := by
  by_cases h1 : lo ≤ n <;> by_cases h2 : n ≤ hi
  all_goals
    go_enter Try.func86, Try.ntmps86
    go_wp2
    go_ret
    exact ⟨by simp [Nc.inB, h1, h2], rfl⟩

theorem spec_l1In (n lo hi : Int) (w : World) :
    Calls Try.prog 89 #[.int .i64 n, .int .i64 lo, .int .i64 hi] w fun e w' => e = .returned (.bool (Nc.inB n lo hi)) ∧ w = w' := by
  by_cases h1 : lo ≤ n <;> by_cases h2 : n ≤ hi
  all_goals
    go_enter Try.func89, Try.ntmps89
    go_wp2
    go_ret
    exact ⟨by simp [Nc.inB, h1, h2], rfl⟩

theorem spec_Min (a b : Int) (w : World) :
    Calls Try.prog 78 #[.int .i64 a, .int .i64 b] w fun e w' => e = .returned (.int .i64 (Nc.minI a b)) ∧ w = w' := by
  by_cases h : b < a
  all_goals
    go_enter Try.func78, Try.ntmps78
    go_wp2
    go_ret
    exact ⟨ret_i64 (by unfold Nc.minI; split <;> omega), rfl⟩

theorem impl_Mod (p q : Int) (w : World) :
    Calls Try.prog 101 #[.int .i64 p, .int .i64 q] w fun e w' => e = .returned (.int .i64 (Nc.modI p q)) ∧ w = w' := by
  cases h2 : Nc.inB q 1 1000000000000
  · go_enter Try.func101, Try.ntmps101
    go_wp2_with (go_at_call 86; refine (impl_InRange _ _ _ _).mono ?_; rintro e w' ⟨rfl, rfl⟩)
    go_ret
    exact ⟨ret_i64 (by simp [Nc.modI, h2]), rfl⟩
  · obtain ⟨b5, b6⟩ := Nc.inB_true h2
    obtain ⟨b1, b2⟩ := Nc.modI_bd (p := p) h2
    obtain ⟨b3, b4⟩ := Nc.modI_lo (p := p) h2
    go_enter Try.func101, Try.ntmps101
    go_wp2_with (go_at_call 86; refine (impl_InRange _ _ _ _).mono ?_; rintro e w' ⟨rfl, rfl⟩)
    go_ret
    exact ⟨ret_i64 (Nc.modI_yes h2), rfl⟩

theorem spec_Mod (p q : Int) (w : World) :
    Calls Try.prog 44 #[.int .i64 p, .int .i64 q] w fun e w' => e = .returned (.int .i64 (Nc.modI p q)) ∧ w = w' := by
  cases h2 : Nc.inB q 1 1000000000000
  · go_enter Try.func44, Try.ntmps44
    go_wp2_with (go_at_call 89; refine (spec_l1In _ _ _ _).mono ?_; rintro e w' ⟨rfl, rfl⟩)
    go_ret
    exact ⟨ret_i64 (by simp [Nc.modI, h2]), rfl⟩
  · obtain ⟨b5, b6⟩ := Nc.inB_true h2
    obtain ⟨b1, b2⟩ := Nc.modI_bd (p := p) h2
    obtain ⟨b3, b4⟩ := Nc.modI_lo (p := p) h2
    go_enter Try.func44, Try.ntmps44
    go_wp2_with (go_at_call 89; refine (spec_l1In _ _ _ _).mono ?_; rintro e w' ⟨rfl, rfl⟩)
    go_ret
    exact ⟨ret_i64 (Nc.modI_yes h2), rfl⟩

theorem impl_IsElement (x : Int) (w : World) :
    Calls Try.prog 90 #[.int .i64 x] w fun e w' => e = .returned (.bool (Nc.elB x)) ∧ w = w' := by
  go_enter Try.func90, Try.ntmps90
  go_wp2_with (go_at_call 86; refine (impl_InRange _ _ _ _).mono ?_; rintro e w' ⟨rfl, rfl⟩)
  go_ret
  exact ⟨rfl, rfl⟩

theorem impl_IsValidKey (x : Int) (w : World) :
    Calls Try.prog 46 #[.int .i64 x] w fun e w' => e = .returned (.bool (Nc.inB x 1 2147483646)) ∧ w = w' := by
  go_enter Try.func46, Try.ntmps46
  go_wp2_with (go_at_call 86; refine (impl_InRange _ _ _ _).mono ?_; rintro e w' ⟨rfl, rfl⟩)
  go_ret
  exact ⟨rfl, rfl⟩

theorem spec_IsElement (x : Int) (w : World) :
    Calls Try.prog 25 #[.int .i64 x] w fun e w' => e = .returned (.bool (Nc.elB x)) ∧ w = w' := by
  go_enter Try.func25, Try.ntmps25
  go_wp2_with (go_at_call 89; refine (spec_l1In _ _ _ _).mono ?_; rintro e w' ⟨rfl, rfl⟩)
  go_ret
  exact ⟨rfl, rfl⟩

theorem spec_l4Both (a b : Int) (w : World) :
    Calls Try.prog 95 #[.int .i64 a, .int .i64 b] w fun e w' => e = .returned (.bool (Nc.elB a && Nc.elB b)) ∧ w = w' := by
  cases h1 : Nc.elB a <;> cases h2 : Nc.elB b
  all_goals
    go_enter Try.func95, Try.ntmps95
    go_wp2_with (go_at_call 25; refine (spec_IsElement _ _).mono ?_; rintro e w' ⟨rfl, rfl⟩)
    go_ret
    exact ⟨ret_bool rfl, rfl⟩

theorem impl_AddField (a b : Int) (w : World) :
    Calls Try.prog 26 #[.int .i64 a, .int .i64 b] w fun e w' => e = .returned (.int .i64 (Nc.addF a b)) ∧ w = w' := by
  cases h1 : Nc.elB a <;> cases h2 : Nc.elB b
  case true.true =>
    obtain ⟨b3, b4⟩ := Nc.inB_true h1
    obtain ⟨b5, b6⟩ := Nc.inB_true h2
    have b7 : 0 ≤ a * b := Int.mul_nonneg b3 b5
    have b8 : a * b ≤ 1018 * 1018 := Int.mul_le_mul b4 b6 b5 (by omega)
    go_enter Try.func26, Try.ntmps26
    go_wp2_with (go_at_call 90; refine (impl_IsElement _ _).mono ?_; rintro e w' ⟨rfl, rfl⟩)
    go_ret
    exact ⟨ret_i64 (by simp only [Nc.addF, h1, h2, Bool.and_self, if_true]), rfl⟩
  all_goals
    go_enter Try.func26, Try.ntmps26
    go_wp2_with (go_at_call 90; refine (impl_IsElement _ _).mono ?_; rintro e w' ⟨rfl, rfl⟩)
    go_ret
    exact ⟨ret_i64 (by simp [Nc.addF, h1, h2]), rfl⟩

theorem spec_AddField (a b : Int) (w : World) :
    Calls Try.prog 36 #[.int .i64 a, .int .i64 b] w fun e w' => e = .returned (.int .i64 (Nc.addF a b)) ∧ w = w' := by
  cases h1 : Nc.elB a <;> cases h2 : Nc.elB b
  case true.true =>
    obtain ⟨b3, b4⟩ := Nc.inB_true h1
    obtain ⟨b5, b6⟩ := Nc.inB_true h2
    have b7 : 0 ≤ a * b := Int.mul_nonneg b3 b5
    have b8 : a * b ≤ 1018 * 1018 := Int.mul_le_mul b4 b6 b5 (by omega)
    go_enter Try.func36, Try.ntmps36
    go_wp2_with (go_at_call 95; refine (spec_l4Both _ _ _).mono ?_; rintro e w' ⟨rfl, rfl⟩)
    go_ret
    exact ⟨ret_i64 (by simp only [Nc.addF, h1, h2, Bool.and_self, if_true]), rfl⟩
  all_goals
    go_enter Try.func36, Try.ntmps36
    go_wp2_with (go_at_call 95; refine (spec_l4Both _ _ _).mono ?_; rintro e w' ⟨rfl, rfl⟩)
    go_ret
    exact ⟨ret_i64 (by simp [Nc.addF, h1, h2]), rfl⟩

theorem impl_SubField (a b : Int) (w : World) :
    Calls Try.prog 28 #[.int .i64 a, .int .i64 b] w fun e w' => e = .returned (.int .i64 (Nc.subF a b)) ∧ w = w' := by
  cases h1 : Nc.elB a <;> cases h2 : Nc.elB b
  case true.true =>
    obtain ⟨b3, b4⟩ := Nc.inB_true h1
    obtain ⟨b5, b6⟩ := Nc.inB_true h2
    have b7 : 0 ≤ a * b := Int.mul_nonneg b3 b5
    have b8 : a * b ≤ 1018 * 1018 := Int.mul_le_mul b4 b6 b5 (by omega)
    go_enter Try.func28, Try.ntmps28
    go_wp2_with (go_at_call 90; refine (impl_IsElement _ _).mono ?_; rintro e w' ⟨rfl, rfl⟩)
    go_ret
    exact ⟨ret_i64 (by simp only [Nc.subF, h1, h2, Bool.and_self, if_true]), rfl⟩
  all_goals
    go_enter Try.func28, Try.ntmps28
    go_wp2_with (go_at_call 90; refine (impl_IsElement _ _).mono ?_; rintro e w' ⟨rfl, rfl⟩)
    go_ret
    exact ⟨ret_i64 (by simp [Nc.subF, h1, h2]), rfl⟩

theorem spec_SubField (a b : Int) (w : World) :
    Calls Try.prog 70 #[.int .i64 a, .int .i64 b] w fun e w' => e = .returned (.int .i64 (Nc.subF a b)) ∧ w = w' := by
  cases h1 : Nc.elB a <;> cases h2 : Nc.elB b
  case true.true =>
    obtain ⟨b3, b4⟩ := Nc.inB_true h1
    obtain ⟨b5, b6⟩ := Nc.inB_true h2
    have b7 : 0 ≤ a * b := Int.mul_nonneg b3 b5
    have b8 : a * b ≤ 1018 * 1018 := Int.mul_le_mul b4 b6 b5 (by omega)
    go_enter Try.func70, Try.ntmps70
    go_wp2_with (go_at_call 95; refine (spec_l4Both _ _ _).mono ?_; rintro e w' ⟨rfl, rfl⟩)
    go_ret
    exact ⟨ret_i64 (by simp only [Nc.subF, h1, h2, Bool.and_self, if_true]; congr 1; omega), rfl⟩
  all_goals
    go_enter Try.func70, Try.ntmps70
    go_wp2_with (go_at_call 95; refine (spec_l4Both _ _ _).mono ?_; rintro e w' ⟨rfl, rfl⟩)
    go_ret
    exact ⟨ret_i64 (by simp [Nc.subF, h1, h2]), rfl⟩

theorem impl_MulField (a b : Int) (w : World) :
    Calls Try.prog 27 #[.int .i64 a, .int .i64 b] w fun e w' => e = .returned (.int .i64 (Nc.mulF a b)) ∧ w = w' := by
  cases h1 : Nc.elB a <;> cases h2 : Nc.elB b
  case true.true =>
    obtain ⟨b3, b4⟩ := Nc.inB_true h1
    obtain ⟨b5, b6⟩ := Nc.inB_true h2
    have b7 : 0 ≤ a * b := Int.mul_nonneg b3 b5
    have b8 : a * b ≤ 1018 * 1018 := Int.mul_le_mul b4 b6 b5 (by omega)
    go_enter Try.func27, Try.ntmps27
    go_wp2_with (go_at_call 90; refine (impl_IsElement _ _).mono ?_; rintro e w' ⟨rfl, rfl⟩)
    go_ret
    exact ⟨ret_i64 (by simp only [Nc.mulF, h1, h2, Bool.and_self, if_true]), rfl⟩
  all_goals
    go_enter Try.func27, Try.ntmps27
    go_wp2_with (go_at_call 90; refine (impl_IsElement _ _).mono ?_; rintro e w' ⟨rfl, rfl⟩)
    go_ret
    exact ⟨ret_i64 (by simp [Nc.mulF, h1, h2]), rfl⟩

theorem spec_MulField (a b : Int) (w : World) :
    Calls Try.prog 72 #[.int .i64 a, .int .i64 b] w fun e w' => e = .returned (.int .i64 (Nc.mulF a b)) ∧ w = w' := by
  cases h1 : Nc.elB a <;> cases h2 : Nc.elB b
  case true.true =>
    obtain ⟨b3, b4⟩ := Nc.inB_true h1
    obtain ⟨b5, b6⟩ := Nc.inB_true h2
    have b7 : 0 ≤ a * b := Int.mul_nonneg b3 b5
    have b8 : a * b ≤ 1018 * 1018 := Int.mul_le_mul b4 b6 b5 (by omega)
    go_enter Try.func72, Try.ntmps72
    go_wp2_with (go_at_call 95; refine (spec_l4Both _ _ _).mono ?_; rintro e w' ⟨rfl, rfl⟩)
    go_ret
    exact ⟨ret_i64 (by simp only [Nc.mulF, h1, h2, Bool.and_self, if_true]), rfl⟩
  all_goals
    go_enter Try.func72, Try.ntmps72
    go_wp2_with (go_at_call 95; refine (spec_l4Both _ _ _).mono ?_; rintro e w' ⟨rfl, rfl⟩)
    go_ret
    exact ⟨ret_i64 (by simp [Nc.mulF, h1, h2]), rfl⟩

theorem impl_powMod (a n m : Int) (w : World) (ha : 0 ≤ a) (ham : a < m) (hn : 0 ≤ n) (hN : n ≤ 1000000000000) (hm : 2 ≤ m) (hM : m ≤ 10000) :
    Calls Try.prog 91 #[.int .i64 a, .int .i64 n, .int .i64 m] w fun e w' => e = .returned (.int .i64 (Nc.powM a n m)) ∧ w = w' := by
  have hstart := Lib.hid (Nc.powInv_start ha ham hn hm)
  go_enter Try.func91, Try.ntmps91
  go_wp2
  go_loop [0, 1, 7] (fun x k o => ∃ a' n' o' : Int, x = .int .i64 a' ∧ k = .int .i64 n' ∧ o = .int .i64 o' ∧ Nc.PowInv a n m o' a' n') (fun _ k _ => (intOf k).toNat)
  case atStart => exact ⟨a, n, 1, rfl, rfl, rfl, hstart.out⟩
  case round =>
    obtain ⟨a', n', o', rfl, rfl, rfl, hi⟩ := hrel
    have HI := Lib.hid hi
    obtain ⟨c1, c2, c3, c4, c5, c6, c7⟩ := hi
    clear c7
    have d1 : 0 ≤ o' * a' := Int.mul_nonneg c1 c3
    have d2 : o' * a' ≤ 10000 * 10000 := Int.mul_le_mul (by omega) (by omega) c3 (by omega)
    have d3 : 0 ≤ a' * a' := Int.mul_nonneg c3 c3
    have d4 : a' * a' ≤ 10000 * 10000 := Int.mul_le_mul (by omega) (by omega) c3 (by omega)
    by_cases hp : 0 < n'
    · cases hb : (bits BinOp.and IntKind.i64 n' 1 == 1)
      · have HO : Hid (n' % 2 = 0) := Lib.hid (by have := beq_eq_false_iff_ne.1 hb; rw [i64_and1 n' c5 (by omega)] at this; omega)
        go_wp2
        exact ⟨⟨_, _, _, rfl, rfl, rfl, Nc.powInv_even HI.out HO.out⟩, by simp only [intOf]; omega⟩
      · have HO : Hid (n' % 2 = 1) := Lib.hid (by have := beq_iff_eq.1 hb; rw [i64_and1 n' c5 (by omega)] at this; omega)
        go_wp2
        exact ⟨⟨_, _, _, rfl, rfl, rfl, Nc.powInv_odd HI.out HO.out⟩, by simp only [intOf]; omega⟩
    · go_wp2
      go_ret
      exact ⟨ret_i64 (Nc.powInv_end HI.out (by omega)), rfl⟩

theorem spec_l4Pow (a n m : Int) (w : World) (ha : 0 ≤ a) (ham : a < m) (hn : 0 ≤ n) (hN : n ≤ 1000000000000) (hm : 2 ≤ m) (hM : m ≤ 10000) :
    Calls Try.prog 94 #[.int .i64 a, .int .i64 n, .int .i64 m] w fun e w' => e = .returned (.int .i64 (Nc.powM a n m)) ∧ w = w' := by
  have hstart := Lib.hid (Nc.powInv_start ha ham hn hm)
  go_enter Try.func94, Try.ntmps94
  go_wp2
  go_loop [0, 1, 7] (fun x k o => ∃ a' n' o' : Int, x = .int .i64 a' ∧ k = .int .i64 n' ∧ o = .int .i64 o' ∧ Nc.PowInv a n m o' a' n') (fun _ k _ => (intOf k).toNat)
  case atStart => exact ⟨a, n, 1, rfl, rfl, rfl, hstart.out⟩
  case round =>
    obtain ⟨a', n', o', rfl, rfl, rfl, hi⟩ := hrel
    have HI := Lib.hid hi
    obtain ⟨c1, c2, c3, c4, c5, c6, c7⟩ := hi
    clear c7
    have d1 : 0 ≤ o' * a' := Int.mul_nonneg c1 c3
    have d2 : o' * a' ≤ 10000 * 10000 := Int.mul_le_mul (by omega) (by omega) c3 (by omega)
    have d3 : 0 ≤ a' * a' := Int.mul_nonneg c3 c3
    have d4 : a' * a' ≤ 10000 * 10000 := Int.mul_le_mul (by omega) (by omega) c3 (by omega)
    by_cases hp : 0 < n'
    · cases hb : (bits BinOp.and IntKind.i64 n' 1 == 1)
      · have HO : Hid (n' % 2 = 0) := Lib.hid (by have := beq_eq_false_iff_ne.1 hb; rw [i64_and1 n' c5 (by omega)] at this; omega)
        go_wp2
        exact ⟨⟨_, _, _, rfl, rfl, rfl, Nc.powInv_even HI.out HO.out⟩, by simp only [intOf]; omega⟩
      · have HO : Hid (n' % 2 = 1) := Lib.hid (by have := beq_iff_eq.1 hb; rw [i64_and1 n' c5 (by omega)] at this; omega)
        go_wp2
        exact ⟨⟨_, _, _, rfl, rfl, rfl, Nc.powInv_odd HI.out HO.out⟩, by simp only [intOf]; omega⟩
    · go_wp2
      go_ret
      exact ⟨ret_i64 (Nc.powInv_end HI.out (by omega)), rfl⟩

theorem impl_PowField (a n : Int) (w : World) :
    Calls Try.prog 30 #[.int .i64 a, .int .i64 n] w fun e w' => e = .returned (.int .i64 (Nc.powF a n)) ∧ w = w' := by
  cases h1 : Nc.elB a <;> cases h2 : Nc.inB n 0 1000000000000
  case true.true =>
    obtain ⟨b3, b4⟩ := Nc.inB_true h1
    obtain ⟨b5, b6⟩ := Nc.inB_true h2
    go_enter Try.func30, Try.ntmps30
    go_wp2_with (first | (go_at_call 90; refine (impl_IsElement _ _).mono ?_; rintro e w' ⟨rfl, rfl⟩) | (go_at_call 86; refine (impl_InRange _ _ _ _).mono ?_; rintro e w' ⟨rfl, rfl⟩) | (go_at_call 91; refine (impl_powMod _ _ _ _ (by omega) (by omega) (by omega) (by omega) (by omega) (by omega)).mono ?_; rintro e w' ⟨rfl, rfl⟩))
    go_ret
    exact ⟨ret_i64 (by simp only [Nc.powF, h1, h2, Bool.and_self, if_true]), rfl⟩
  all_goals
    go_enter Try.func30, Try.ntmps30
    go_wp2_with (first | (go_at_call 90; refine (impl_IsElement _ _).mono ?_; rintro e w' ⟨rfl, rfl⟩) | (go_at_call 86; refine (impl_InRange _ _ _ _).mono ?_; rintro e w' ⟨rfl, rfl⟩))
    go_ret
    exact ⟨ret_i64 (by simp [Nc.powF, h1, h2]), rfl⟩

theorem impl_IsGroupElement (x : Int) (w : World) :
    Calls Try.prog 34 #[.int .i64 x] w fun e w' => e = .returned (.bool (Nc.grB x)) ∧ w = w' := by
  cases h1 : Nc.inB x 1 2038
  · go_enter Try.func34, Try.ntmps34
    go_wp2_with ((go_at_call 86; refine (impl_InRange _ _ _ _).mono ?_; rintro e w' ⟨rfl, rfl⟩))
    go_ret
    exact ⟨ret_bool (by simp [Nc.grB, h1]), rfl⟩
  · obtain ⟨b3, b4⟩ := Nc.inB_true h1
    go_enter Try.func34, Try.ntmps34
    go_wp2_with (first | (go_at_call 86; refine (impl_InRange _ _ _ _).mono ?_; rintro e w' ⟨rfl, rfl⟩) | (go_at_call 91; refine (impl_powMod _ _ _ _ (by omega) (by omega) (by omega) (by omega) (by omega) (by omega)).mono ?_; rintro e w' ⟨rfl, rfl⟩))
    go_ret
    exact ⟨ret_bool (by simp [Nc.grB, h1]), rfl⟩

theorem impl_PowGroup (g n : Int) (w : World) :
    Calls Try.prog 33 #[.int .i64 g, .int .i64 n] w fun e w' => e = .returned (.int .i64 (Nc.powG g n)) ∧ w = w' := by
  cases h1 : Nc.grB g <;> cases h2 : Nc.elB n
  case true.true =>
    obtain ⟨b3, b4⟩ := Nc.grB_bd h1
    obtain ⟨b5, b6⟩ := Nc.inB_true h2
    go_enter Try.func33, Try.ntmps33
    go_wp2_with (first | (go_at_call 34; refine (impl_IsGroupElement _ _).mono ?_; rintro e w' ⟨rfl, rfl⟩) | (go_at_call 90; refine (impl_IsElement _ _).mono ?_; rintro e w' ⟨rfl, rfl⟩) | (go_at_call 91; refine (impl_powMod _ _ _ _ (by omega) (by omega) (by omega) (by omega) (by omega) (by omega)).mono ?_; rintro e w' ⟨rfl, rfl⟩))
    go_ret
    exact ⟨ret_i64 (by simp only [Nc.powG, h1, h2, Bool.and_self, if_true]), rfl⟩
  all_goals
    go_enter Try.func33, Try.ntmps33
    go_wp2_with (first | (go_at_call 34; refine (impl_IsGroupElement _ _).mono ?_; rintro e w' ⟨rfl, rfl⟩) | (go_at_call 90; refine (impl_IsElement _ _).mono ?_; rintro e w' ⟨rfl, rfl⟩))
    go_ret
    exact ⟨ret_i64 (by simp [Nc.powG, h1, h2]), rfl⟩

theorem impl_MulGroup (a b : Int) (w : World) :
    Calls Try.prog 35 #[.int .i64 a, .int .i64 b] w fun e w' => e = .returned (.int .i64 (Nc.mulG a b)) ∧ w = w' := by
  cases h1 : Nc.grB a <;> cases h2 : Nc.grB b
  case true.true =>
    obtain ⟨b3, b4⟩ := Nc.grB_bd h1
    obtain ⟨b5, b6⟩ := Nc.grB_bd h2
    have b7 : 0 ≤ a * b := Int.mul_nonneg (by omega) (by omega)
    have b8 : a * b ≤ 2038 * 2038 := Int.mul_le_mul b4 b6 (by omega) (by omega)
    go_enter Try.func35, Try.ntmps35
    go_wp2_with ((go_at_call 34; refine (impl_IsGroupElement _ _).mono ?_; rintro e w' ⟨rfl, rfl⟩))
    go_ret
    exact ⟨ret_i64 (by simp only [Nc.mulG, h1, h2, Bool.and_self, if_true]), rfl⟩
  all_goals
    go_enter Try.func35, Try.ntmps35
    go_wp2_with ((go_at_call 34; refine (impl_IsGroupElement _ _).mono ?_; rintro e w' ⟨rfl, rfl⟩))
    go_ret
    exact ⟨ret_i64 (by simp [Nc.mulG, h1, h2]), rfl⟩

theorem spec_PowField (a n : Int) (w : World) :
    Calls Try.prog 118 #[.int .i64 a, .int .i64 n] w fun e w' => e = .returned (.int .i64 (Nc.powF a n)) ∧ w = w' := by
  cases h1 : Nc.elB a <;> cases h2 : Nc.inB n 0 1000000000000
  case true.true =>
    obtain ⟨b3, b4⟩ := Nc.inB_true h1
    obtain ⟨b5, b6⟩ := Nc.inB_true h2
    go_enter Try.func118, Try.ntmps118
    go_wp2_with (first | (go_at_call 25; refine (spec_IsElement _ _).mono ?_; rintro e w' ⟨rfl, rfl⟩) | (go_at_call 89; refine (spec_l1In _ _ _ _).mono ?_; rintro e w' ⟨rfl, rfl⟩) | (go_at_call 94; refine (spec_l4Pow _ _ _ _ (by omega) (by omega) (by omega) (by omega) (by omega) (by omega)).mono ?_; rintro e w' ⟨rfl, rfl⟩))
    go_ret
    exact ⟨ret_i64 (by simp only [Nc.powF, h1, h2, Bool.and_self, if_true]), rfl⟩
  all_goals
    go_enter Try.func118, Try.ntmps118
    go_wp2_with (first | (go_at_call 25; refine (spec_IsElement _ _).mono ?_; rintro e w' ⟨rfl, rfl⟩) | (go_at_call 89; refine (spec_l1In _ _ _ _).mono ?_; rintro e w' ⟨rfl, rfl⟩))
    go_ret
    exact ⟨ret_i64 (by simp [Nc.powF, h1, h2]), rfl⟩

theorem spec_IsGroupElement (x : Int) (w : World) :
    Calls Try.prog 32 #[.int .i64 x] w fun e w' => e = .returned (.bool (Nc.grB x)) ∧ w = w' := by
  cases h1 : Nc.inB x 1 2038
  · go_enter Try.func32, Try.ntmps32
    go_wp2_with ((go_at_call 89; refine (spec_l1In _ _ _ _).mono ?_; rintro e w' ⟨rfl, rfl⟩))
    go_ret
    exact ⟨ret_bool (by simp [Nc.grB, h1]), rfl⟩
  · obtain ⟨b3, b4⟩ := Nc.inB_true h1
    go_enter Try.func32, Try.ntmps32
    go_wp2_with (first | (go_at_call 89; refine (spec_l1In _ _ _ _).mono ?_; rintro e w' ⟨rfl, rfl⟩) | (go_at_call 94; refine (spec_l4Pow _ _ _ _ (by omega) (by omega) (by omega) (by omega) (by omega) (by omega)).mono ?_; rintro e w' ⟨rfl, rfl⟩))
    go_ret
    exact ⟨ret_bool (by simp [Nc.grB, h1]), rfl⟩

theorem impl_InverseField (a : Int) (w : World) :
    Calls Try.prog 29 #[.int .i64 a] w fun e w' => e = .returned (.int .i64 (Nc.invF a)) ∧ w = w' := by
  go_enter Try.func29, Try.ntmps29
  go_wp2_with (go_at_call 30; refine (impl_PowField _ _ _).mono ?_; rintro e w' ⟨rfl, rfl⟩)
  go_ret
  exact ⟨rfl, rfl⟩

theorem spec_InverseField (a : Int) (w : World) :
    Calls Try.prog 128 #[.int .i64 a] w fun e w' => e = .returned (.int .i64 (Nc.invF a)) ∧ w = w' := by
  cases h1 : Nc.elB a
  · go_enter Try.func128, Try.ntmps128
    go_wp2_with (go_at_call 25; refine (spec_IsElement _ _).mono ?_; rintro e w' ⟨rfl, rfl⟩)
    go_ret
    exact ⟨ret_i64 (by simp [Nc.invF, Nc.powF, h1]), rfl⟩
  · obtain ⟨b3, b4⟩ := Nc.inB_true h1
    cases h0 : (a == 0)
    · go_enter Try.func128, Try.ntmps128
      go_wp2_with (first | (go_at_call 25; refine (spec_IsElement _ _).mono ?_; rintro e w' ⟨rfl, rfl⟩) | (go_at_call 94; refine (spec_l4Pow _ _ _ _ (by omega) (by omega) (by omega) (by omega) (by omega) (by omega)).mono ?_; rintro e w' ⟨rfl, rfl⟩))
      go_ret
      exact ⟨ret_i64 (Nc.invF_yes h1).symm, rfl⟩
    · have HZ : Hid (Nc.invF a = 0) := Lib.hid (by rw [beq_iff_eq.1 h0]; exact Nc.invF_zero)
      go_enter Try.func128, Try.ntmps128
      go_wp2_with (go_at_call 25; refine (spec_IsElement _ _).mono ?_; rintro e w' ⟨rfl, rfl⟩)
      go_ret
      exact ⟨ret_i64 HZ.out.symm, rfl⟩

end Go.Proofs.Ytnobbojjhehdfaa
