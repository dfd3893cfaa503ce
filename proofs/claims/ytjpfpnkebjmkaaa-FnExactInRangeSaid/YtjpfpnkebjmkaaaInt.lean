/- Contracts of the integer functions: each Go function returns what the plain function computes, and leaves the world as it was. Conditions: stated with each theorem. -/
import Derived.Test.YtjpfpnkebjmkaaaPlain
import Derived.Test.YtjpfpnkebjmkaaaChecked
import Derived.WalkKit
import Derived.WalkLawsBesides
import Derived.WalkSpells
import Derived.LoopTactic
import Derived.Laws.BitsLemmas
import Derived.Lib.Hide
namespace Go.Proofs.Ytjpfpnkebjmkaaa
open Go.RowKit

theorem ret_i64 {a b : Int} (h : a = b) : Ending.returned (.int .i64 a) = .returned (.int .i64 b) := by rw [h]
theorem ret_bool {a b : Bool} (h : a = b) : Ending.returned (.bool a) = .returned (.bool b) := by rw [h]

theorem wraps_i64 (n : Int) (h₀ : 0 ≤ n) (h₁ : n < 2 ^ 63) : IntKind.i64.wrap n = n := by rw [IntKind.wrap_i64]; omega
/-- 'n & 1' of an int that is not negative. -/
theorem i64_and1 (x : Int) (h₀ : 0 ≤ x) (h₁ : x < 9223372036854775808) : bits .and .i64 x 1 = x % 2 :=
  bits_mask .i64 63 (by decide) wraps_i64 1 (by decide) x h₀ h₁

theorem impl_InRange (n lo hi : Int) (w : World) :
    Calls Try.prog 16 #[.int .i64 n, .int .i64 lo, .int .i64 hi] w fun e w' => e = .returned (.bool (Nc.inB n lo hi)) ∧ w = w' := by
  by_cases h1 : lo ≤ n <;> by_cases h2 : n ≤ hi
  all_goals
    go_enter Try.func16, Try.ntmps16
    go_wp2
    go_ret
    exact ⟨by simp [Nc.inB, h1, h2], rfl⟩

theorem spec_InRange (n lo hi : Int) (w : World) :
    Calls Try.prog 15 #[.int .i64 n, .int .i64 lo, .int .i64 hi] w fun e w' => e = .returned (.bool (Nc.inB n lo hi)) ∧ w = w' := by
  by_cases h1 : lo ≤ n <;> by_cases h2 : n ≤ hi
  all_goals
    go_enter Try.func15, Try.ntmps15
    go_wp2
    go_ret
    exact ⟨by simp [Nc.inB, h1, h2], rfl⟩

theorem spec_l1In (n lo hi : Int) (w : World) :
    Calls Try.prog 37 #[.int .i64 n, .int .i64 lo, .int .i64 hi] w fun e w' => e = .returned (.bool (Nc.inB n lo hi)) ∧ w = w' := by
  by_cases h1 : lo ≤ n <;> by_cases h2 : n ≤ hi
  all_goals
    go_enter Try.func37, Try.ntmps37
    go_wp2
    go_ret
    exact ⟨by simp [Nc.inB, h1, h2], rfl⟩

theorem impl_Max (a b : Int) (w : World) :
    Calls Try.prog 22 #[.int .i64 a, .int .i64 b] w fun e w' => e = .returned (.int .i64 (Nc.maxI a b)) ∧ w = w' := by
  by_cases h : a < b
  all_goals
    go_enter Try.func22, Try.ntmps22
    go_wp2
    go_ret
    exact ⟨ret_i64 (by unfold Nc.maxI; split <;> omega), rfl⟩

theorem spec_Max (a b : Int) (w : World) :
    Calls Try.prog 21 #[.int .i64 a, .int .i64 b] w fun e w' => e = .returned (.int .i64 (Nc.maxI a b)) ∧ w = w' := by
  by_cases h : a < b
  all_goals
    go_enter Try.func21, Try.ntmps21
    go_wp2
    go_ret
    exact ⟨ret_i64 (by unfold Nc.maxI; split <;> omega), rfl⟩

theorem impl_Min (a b : Int) (w : World) :
    Calls Try.prog 24 #[.int .i64 a, .int .i64 b] w fun e w' => e = .returned (.int .i64 (Nc.minI a b)) ∧ w = w' := by
  by_cases h : b < a
  all_goals
    go_enter Try.func24, Try.ntmps24
    go_wp2
    go_ret
    exact ⟨ret_i64 (by unfold Nc.minI; split <;> omega), rfl⟩

theorem spec_Min (a b : Int) (w : World) :
    Calls Try.prog 23 #[.int .i64 a, .int .i64 b] w fun e w' => e = .returned (.int .i64 (Nc.minI a b)) ∧ w = w' := by
  by_cases h : b < a
  all_goals
    go_enter Try.func23, Try.ntmps23
    go_wp2
    go_ret
    exact ⟨ret_i64 (by unfold Nc.minI; split <;> omega), rfl⟩

theorem impl_CeilDiv (a b : Int) (w : World) :
    Calls Try.prog 26 #[.int .i64 a, .int .i64 b] w fun e w' => e = .returned (.int .i64 (Nc.ceilDiv a b)) ∧ w = w' := by
  cases h1 : Nc.inB a 0 1000000000000 <;> cases h2 : Nc.inB b 1 1000000000000
  case true.true =>
    have b1 := Nc.inB_true h1
    have b2 := Nc.inB_true h2
    obtain ⟨b3, b4⟩ := b1
    obtain ⟨b5, b6⟩ := b2
    go_enter Try.func26, Try.ntmps26
    go_wp2_with (go_at_call 16; refine (impl_InRange _ _ _ _).mono ?_; rintro e w' ⟨rfl, rfl⟩)
    go_ret
    exact ⟨ret_i64 (by simp [Nc.ceilDiv, h1, h2]), rfl⟩
  all_goals
    go_enter Try.func26, Try.ntmps26
    go_wp2_with (go_at_call 16; refine (impl_InRange _ _ _ _).mono ?_; rintro e w' ⟨rfl, rfl⟩)
    go_ret
    exact ⟨ret_i64 (by simp [Nc.ceilDiv, h1, h2]), rfl⟩

theorem spec_CeilDiv (a b : Int) (w : World) :
    Calls Try.prog 25 #[.int .i64 a, .int .i64 b] w fun e w' => e = .returned (.int .i64 (Nc.ceilDiv a b)) ∧ w = w' := by
  cases h1 : Nc.inB a 0 1000000000000 <;> cases h2 : Nc.inB b 1 1000000000000
  case true.true =>
    have b1 := Nc.inB_true h1
    have b2 := Nc.inB_true h2
    obtain ⟨b3, b4⟩ := b1
    obtain ⟨b5, b6⟩ := b2
    go_enter Try.func25, Try.ntmps25
    go_wp2_with (go_at_call 37; refine (spec_l1In _ _ _ _).mono ?_; rintro e w' ⟨rfl, rfl⟩)
    go_ret
    exact ⟨ret_i64 (by simp [Nc.ceilDiv, h1, h2]), rfl⟩
  all_goals
    go_enter Try.func25, Try.ntmps25
    go_wp2_with (go_at_call 37; refine (spec_l1In _ _ _ _).mono ?_; rintro e w' ⟨rfl, rfl⟩)
    go_ret
    exact ⟨ret_i64 (by simp [Nc.ceilDiv, h1, h2]), rfl⟩

theorem impl_Mod (p q : Int) (w : World) :
    Calls Try.prog 28 #[.int .i64 p, .int .i64 q] w fun e w' => e = .returned (.int .i64 (Nc.modI p q)) ∧ w = w' := by
  cases h2 : Nc.inB q 1 1000000000000
  · go_enter Try.func28, Try.ntmps28
    go_wp2_with (go_at_call 16; refine (impl_InRange _ _ _ _).mono ?_; rintro e w' ⟨rfl, rfl⟩)
    go_ret
    exact ⟨ret_i64 (by simp [Nc.modI, h2]), rfl⟩
  · obtain ⟨b5, b6⟩ := Nc.inB_true h2
    obtain ⟨b1, b2⟩ := Nc.modI_bd (p := p) h2
    obtain ⟨b3, b4⟩ := Nc.modI_lo (p := p) h2
    go_enter Try.func28, Try.ntmps28
    go_wp2_with (go_at_call 16; refine (impl_InRange _ _ _ _).mono ?_; rintro e w' ⟨rfl, rfl⟩)
    go_ret
    exact ⟨ret_i64 (Nc.modI_yes h2), rfl⟩

theorem spec_Mod (p q : Int) (w : World) :
    Calls Try.prog 27 #[.int .i64 p, .int .i64 q] w fun e w' => e = .returned (.int .i64 (Nc.modI p q)) ∧ w = w' := by
  cases h2 : Nc.inB q 1 1000000000000
  · go_enter Try.func27, Try.ntmps27
    go_wp2_with (go_at_call 37; refine (spec_l1In _ _ _ _).mono ?_; rintro e w' ⟨rfl, rfl⟩)
    go_ret
    exact ⟨ret_i64 (by simp [Nc.modI, h2]), rfl⟩
  · obtain ⟨b5, b6⟩ := Nc.inB_true h2
    obtain ⟨b1, b2⟩ := Nc.modI_bd (p := p) h2
    obtain ⟨b3, b4⟩ := Nc.modI_lo (p := p) h2
    go_enter Try.func27, Try.ntmps27
    go_wp2_with (go_at_call 37; refine (spec_l1In _ _ _ _).mono ?_; rintro e w' ⟨rfl, rfl⟩)
    go_ret
    exact ⟨ret_i64 (Nc.modI_yes h2), rfl⟩

theorem impl_IsElement (x : Int) (w : World) :
    Calls Try.prog 18 #[.int .i64 x] w fun e w' => e = .returned (.bool (Nc.elB x)) ∧ w = w' := by
  go_enter Try.func18, Try.ntmps18
  go_wp2_with (go_at_call 16; refine (impl_InRange _ _ _ _).mono ?_; rintro e w' ⟨rfl, rfl⟩)
  go_ret
  exact ⟨rfl, rfl⟩

theorem impl_IsValidKey (x : Int) (w : World) :
    Calls Try.prog 20 #[.int .i64 x] w fun e w' => e = .returned (.bool (Nc.inB x 1 2147483646)) ∧ w = w' := by
  go_enter Try.func20, Try.ntmps20
  go_wp2_with (go_at_call 16; refine (impl_InRange _ _ _ _).mono ?_; rintro e w' ⟨rfl, rfl⟩)
  go_ret
  exact ⟨rfl, rfl⟩

theorem spec_IsElement (x : Int) (w : World) :
    Calls Try.prog 17 #[.int .i64 x] w fun e w' => e = .returned (.bool (Nc.elB x)) ∧ w = w' := by
  go_enter Try.func17, Try.ntmps17
  go_wp2_with (go_at_call 37; refine (spec_l1In _ _ _ _).mono ?_; rintro e w' ⟨rfl, rfl⟩)
  go_ret
  exact ⟨rfl, rfl⟩

theorem spec_IsValidKey (x : Int) (w : World) :
    Calls Try.prog 19 #[.int .i64 x] w fun e w' => e = .returned (.bool (Nc.inB x 1 2147483646)) ∧ w = w' := by
  go_enter Try.func19, Try.ntmps19
  go_wp2_with (go_at_call 37; refine (spec_l1In _ _ _ _).mono ?_; rintro e w' ⟨rfl, rfl⟩)
  go_ret
  exact ⟨rfl, rfl⟩

theorem spec_l4Both (a b : Int) (w : World) :
    Calls Try.prog 38 #[.int .i64 a, .int .i64 b] w fun e w' => e = .returned (.bool (Nc.elB a && Nc.elB b)) ∧ w = w' := by
  cases h1 : Nc.elB a <;> cases h2 : Nc.elB b
  all_goals
    go_enter Try.func38, Try.ntmps38
    go_wp2_with (go_at_call 17; refine (spec_IsElement _ _).mono ?_; rintro e w' ⟨rfl, rfl⟩)
    go_ret
    exact ⟨ret_bool rfl, rfl⟩

theorem impl_AddField (a b : Int) (w : World) :
    Calls Try.prog 30 #[.int .i64 a, .int .i64 b] w fun e w' => e = .returned (.int .i64 (Nc.addF a b)) ∧ w = w' := by
  cases h1 : Nc.elB a <;> cases h2 : Nc.elB b
  case true.true =>
    obtain ⟨b3, b4⟩ := Nc.inB_true h1
    obtain ⟨b5, b6⟩ := Nc.inB_true h2
    have b7 : 0 ≤ a * b := Int.mul_nonneg b3 b5
    have b8 : a * b ≤ 1018 * 1018 := Int.mul_le_mul b4 b6 b5 (by omega)
    go_enter Try.func30, Try.ntmps30
    go_wp2_with (go_at_call 18; refine (impl_IsElement _ _).mono ?_; rintro e w' ⟨rfl, rfl⟩)
    go_ret
    exact ⟨ret_i64 (by simp only [Nc.addF, h1, h2, Bool.and_self, if_true]), rfl⟩
  all_goals
    go_enter Try.func30, Try.ntmps30
    go_wp2_with (go_at_call 18; refine (impl_IsElement _ _).mono ?_; rintro e w' ⟨rfl, rfl⟩)
    go_ret
    exact ⟨ret_i64 (by simp [Nc.addF, h1, h2]), rfl⟩

theorem spec_AddField (a b : Int) (w : World) :
    Calls Try.prog 29 #[.int .i64 a, .int .i64 b] w fun e w' => e = .returned (.int .i64 (Nc.addF a b)) ∧ w = w' := by
  cases h1 : Nc.elB a <;> cases h2 : Nc.elB b
  case true.true =>
    obtain ⟨b3, b4⟩ := Nc.inB_true h1
    obtain ⟨b5, b6⟩ := Nc.inB_true h2
    have b7 : 0 ≤ a * b := Int.mul_nonneg b3 b5
    have b8 : a * b ≤ 1018 * 1018 := Int.mul_le_mul b4 b6 b5 (by omega)
    go_enter Try.func29, Try.ntmps29
    go_wp2_with (go_at_call 38; refine (spec_l4Both _ _ _).mono ?_; rintro e w' ⟨rfl, rfl⟩)
    go_ret
    exact ⟨ret_i64 (by simp only [Nc.addF, h1, h2, Bool.and_self, if_true]), rfl⟩
  all_goals
    go_enter Try.func29, Try.ntmps29
    go_wp2_with (go_at_call 38; refine (spec_l4Both _ _ _).mono ?_; rintro e w' ⟨rfl, rfl⟩)
    go_ret
    exact ⟨ret_i64 (by simp [Nc.addF, h1, h2]), rfl⟩

theorem impl_SubField (a b : Int) (w : World) :
    Calls Try.prog 34 #[.int .i64 a, .int .i64 b] w fun e w' => e = .returned (.int .i64 (Nc.subF a b)) ∧ w = w' := by
  cases h1 : Nc.elB a <;> cases h2 : Nc.elB b
  case true.true =>
    obtain ⟨b3, b4⟩ := Nc.inB_true h1
    obtain ⟨b5, b6⟩ := Nc.inB_true h2
    have b7 : 0 ≤ a * b := Int.mul_nonneg b3 b5
    have b8 : a * b ≤ 1018 * 1018 := Int.mul_le_mul b4 b6 b5 (by omega)
    go_enter Try.func34, Try.ntmps34
    go_wp2_with (go_at_call 18; refine (impl_IsElement _ _).mono ?_; rintro e w' ⟨rfl, rfl⟩)
    go_ret
    exact ⟨ret_i64 (by simp only [Nc.subF, h1, h2, Bool.and_self, if_true]), rfl⟩
  all_goals
    go_enter Try.func34, Try.ntmps34
    go_wp2_with (go_at_call 18; refine (impl_IsElement _ _).mono ?_; rintro e w' ⟨rfl, rfl⟩)
    go_ret
    exact ⟨ret_i64 (by simp [Nc.subF, h1, h2]), rfl⟩

theorem spec_SubField (a b : Int) (w : World) :
    Calls Try.prog 33 #[.int .i64 a, .int .i64 b] w fun e w' => e = .returned (.int .i64 (Nc.subF a b)) ∧ w = w' := by
  cases h1 : Nc.elB a <;> cases h2 : Nc.elB b
  case true.true =>
    obtain ⟨b3, b4⟩ := Nc.inB_true h1
    obtain ⟨b5, b6⟩ := Nc.inB_true h2
    have b7 : 0 ≤ a * b := Int.mul_nonneg b3 b5
    have b8 : a * b ≤ 1018 * 1018 := Int.mul_le_mul b4 b6 b5 (by omega)
    go_enter Try.func33, Try.ntmps33
    go_wp2_with (go_at_call 38; refine (spec_l4Both _ _ _).mono ?_; rintro e w' ⟨rfl, rfl⟩)
    go_ret
    exact ⟨ret_i64 (by simp only [Nc.subF, h1, h2, Bool.and_self, if_true]; congr 1; omega), rfl⟩
  all_goals
    go_enter Try.func33, Try.ntmps33
    go_wp2_with (go_at_call 38; refine (spec_l4Both _ _ _).mono ?_; rintro e w' ⟨rfl, rfl⟩)
    go_ret
    exact ⟨ret_i64 (by simp [Nc.subF, h1, h2]), rfl⟩

theorem impl_MulField (a b : Int) (w : World) :
    Calls Try.prog 32 #[.int .i64 a, .int .i64 b] w fun e w' => e = .returned (.int .i64 (Nc.mulF a b)) ∧ w = w' := by
  cases h1 : Nc.elB a <;> cases h2 : Nc.elB b
  case true.true =>
    obtain ⟨b3, b4⟩ := Nc.inB_true h1
    obtain ⟨b5, b6⟩ := Nc.inB_true h2
    have b7 : 0 ≤ a * b := Int.mul_nonneg b3 b5
    have b8 : a * b ≤ 1018 * 1018 := Int.mul_le_mul b4 b6 b5 (by omega)
    go_enter Try.func32, Try.ntmps32
    go_wp2_with (go_at_call 18; refine (impl_IsElement _ _).mono ?_; rintro e w' ⟨rfl, rfl⟩)
    go_ret
    exact ⟨ret_i64 (by simp only [Nc.mulF, h1, h2, Bool.and_self, if_true]), rfl⟩
  all_goals
    go_enter Try.func32, Try.ntmps32
    go_wp2_with (go_at_call 18; refine (impl_IsElement _ _).mono ?_; rintro e w' ⟨rfl, rfl⟩)
    go_ret
    exact ⟨ret_i64 (by simp [Nc.mulF, h1, h2]), rfl⟩

theorem spec_MulField (a b : Int) (w : World) :
    Calls Try.prog 31 #[.int .i64 a, .int .i64 b] w fun e w' => e = .returned (.int .i64 (Nc.mulF a b)) ∧ w = w' := by
  cases h1 : Nc.elB a <;> cases h2 : Nc.elB b
  case true.true =>
    obtain ⟨b3, b4⟩ := Nc.inB_true h1
    obtain ⟨b5, b6⟩ := Nc.inB_true h2
    have b7 : 0 ≤ a * b := Int.mul_nonneg b3 b5
    have b8 : a * b ≤ 1018 * 1018 := Int.mul_le_mul b4 b6 b5 (by omega)
    go_enter Try.func31, Try.ntmps31
    go_wp2_with (go_at_call 38; refine (spec_l4Both _ _ _).mono ?_; rintro e w' ⟨rfl, rfl⟩)
    go_ret
    exact ⟨ret_i64 (by simp only [Nc.mulF, h1, h2, Bool.and_self, if_true]), rfl⟩
  all_goals
    go_enter Try.func31, Try.ntmps31
    go_wp2_with (go_at_call 38; refine (spec_l4Both _ _ _).mono ?_; rintro e w' ⟨rfl, rfl⟩)
    go_ret
    exact ⟨ret_i64 (by simp [Nc.mulF, h1, h2]), rfl⟩

theorem impl_powMod (a n m : Int) (w : World) (ha : 0 ≤ a) (ham : a < m) (hn : 0 ≤ n) (hN : n ≤ 1000000000000) (hm : 2 ≤ m) (hM : m ≤ 10000) :
    Calls Try.prog 40 #[.int .i64 a, .int .i64 n, .int .i64 m] w fun e w' => e = .returned (.int .i64 (Nc.powM a n m)) ∧ w = w' := by
  have hstart := Lib.hid (Nc.powInv_start ha ham hn hm)
  go_enter Try.func40, Try.ntmps40
  go_wp2
  go_loop [0, 1, 7] (fun x k o => ∃ a' n' o' : Int, x = .int .i64 a' ∧ k = .int .i64 n' ∧ o = .int .i64 o' ∧ Nc.PowInv a n m o' a' n') (fun _ k _ => (intOf k).toNat)
  case atStart => exact ⟨a, n, 1, rfl, rfl, rfl, hstart.out⟩
  case round =>
    obtain ⟨a', n', o', rfl, rfl, rfl, hi⟩ := hrel
    have HI := Lib.hid hi
    obtain ⟨c1, c2, c3, c4, c5, c6, c7⟩ := hi
    clear c7
    have d1 : 0 ≤ o' * a' := Int.mul_nonneg c1 c3
    have d2 : o' * a' ≤ 10000 * 10000 := Int.mul_le_mul (by omega) (by omega) c3 (by omega)
    have d3 : 0 ≤ a' * a' := Int.mul_nonneg c3 c3
    have d4 : a' * a' ≤ 10000 * 10000 := Int.mul_le_mul (by omega) (by omega) c3 (by omega)
    by_cases hp : 0 < n'
    · cases hb : (bits BinOp.and IntKind.i64 n' 1 == 1)
      · have HO : Hid (n' % 2 = 0) := Lib.hid (by have := beq_eq_false_iff_ne.1 hb; rw [i64_and1 n' c5 (by omega)] at this; omega)
        go_wp2
        exact ⟨⟨_, _, _, rfl, rfl, rfl, Nc.powInv_even HI.out HO.out⟩, by simp only [intOf]; omega⟩
      · have HO : Hid (n' % 2 = 1) := Lib.hid (by have := beq_iff_eq.1 hb; rw [i64_and1 n' c5 (by omega)] at this; omega)
        go_wp2
        exact ⟨⟨_, _, _, rfl, rfl, rfl, Nc.powInv_odd HI.out HO.out⟩, by simp only [intOf]; omega⟩
    · go_wp2
      go_ret
      exact ⟨ret_i64 (Nc.powInv_end HI.out (by omega)), rfl⟩

theorem spec_l4Pow (a n m : Int) (w : World) (ha : 0 ≤ a) (ham : a < m) (hn : 0 ≤ n) (hN : n ≤ 1000000000000) (hm : 2 ≤ m) (hM : m ≤ 10000) :
    Calls Try.prog 39 #[.int .i64 a, .int .i64 n, .int .i64 m] w fun e w' => e = .returned (.int .i64 (Nc.powM a n m)) ∧ w = w' := by
  have hstart := Lib.hid (Nc.powInv_start ha ham hn hm)
  go_enter Try.func39, Try.ntmps39
  go_wp2
  go_loop [0, 1, 7] (fun x k o => ∃ a' n' o' : Int, x = .int .i64 a' ∧ k = .int .i64 n' ∧ o = .int .i64 o' ∧ Nc.PowInv a n m o' a' n') (fun _ k _ => (intOf k).toNat)
  case atStart => exact ⟨a, n, 1, rfl, rfl, rfl, hstart.out⟩
  case round =>
    obtain ⟨a', n', o', rfl, rfl, rfl, hi⟩ := hrel
    have HI := Lib.hid hi
    obtain ⟨c1, c2, c3, c4, c5, c6, c7⟩ := hi
    clear c7
    have d1 : 0 ≤ o' * a' := Int.mul_nonneg c1 c3
    have d2 : o' * a' ≤ 10000 * 10000 := Int.mul_le_mul (by omega) (by omega) c3 (by omega)
    have d3 : 0 ≤ a' * a' := Int.mul_nonneg c3 c3
    have d4 : a' * a' ≤ 10000 * 10000 := Int.mul_le_mul (by omega) (by omega) c3 (by omega)
    by_cases hp : 0 < n'
    · cases hb : (bits BinOp.and IntKind.i64 n' 1 == 1)
      · have HO : Hid (n' % 2 = 0) := Lib.hid (by have := beq_eq_false_iff_ne.1 hb; rw [i64_and1 n' c5 (by omega)] at this; omega)
        go_wp2
        exact ⟨⟨_, _, _, rfl, rfl, rfl, Nc.powInv_even HI.out HO.out⟩, by simp only [intOf]; omega⟩
      · have HO : Hid (n' % 2 = 1) := Lib.hid (by have := beq_iff_eq.1 hb; rw [i64_and1 n' c5 (by omega)] at this; omega)
        go_wp2
        exact ⟨⟨_, _, _, rfl, rfl, rfl, Nc.powInv_odd HI.out HO.out⟩, by simp only [intOf]; omega⟩
    · go_wp2
      go_ret
      exact ⟨ret_i64 (Nc.powInv_end HI.out (by omega)), rfl⟩

theorem impl_IsGroupElement (x : Int) (w : World) :
    Calls Try.prog 36 #[.int .i64 x] w fun e w' => e = .returned (.bool (Nc.grB x)) ∧ w = w' := by
  cases h1 : Nc.inB x 1 2038
  · go_enter Try.func36, Try.ntmps36
    go_wp2_with ((go_at_call 16; refine (impl_InRange _ _ _ _).mono ?_; rintro e w' ⟨rfl, rfl⟩))
    go_ret
    exact ⟨ret_bool (by simp [Nc.grB, h1]), rfl⟩
  · obtain ⟨b3, b4⟩ := Nc.inB_true h1
    go_enter Try.func36, Try.ntmps36
    go_wp2_with (first | (go_at_call 16; refine (impl_InRange _ _ _ _).mono ?_; rintro e w' ⟨rfl, rfl⟩) | (go_at_call 40; refine (impl_powMod _ _ _ _ (by omega) (by omega) (by omega) (by omega) (by omega) (by omega)).mono ?_; rintro e w' ⟨rfl, rfl⟩))
    go_ret
    exact ⟨ret_bool (by simp [Nc.grB, h1]), rfl⟩

theorem spec_IsGroupElement (x : Int) (w : World) :
    Calls Try.prog 35 #[.int .i64 x] w fun e w' => e = .returned (.bool (Nc.grB x)) ∧ w = w' := by
  cases h1 : Nc.inB x 1 2038
  · go_enter Try.func35, Try.ntmps35
    go_wp2_with ((go_at_call 37; refine (spec_l1In _ _ _ _).mono ?_; rintro e w' ⟨rfl, rfl⟩))
    go_ret
    exact ⟨ret_bool (by simp [Nc.grB, h1]), rfl⟩
  · obtain ⟨b3, b4⟩ := Nc.inB_true h1
    go_enter Try.func35, Try.ntmps35
    go_wp2_with (first | (go_at_call 37; refine (spec_l1In _ _ _ _).mono ?_; rintro e w' ⟨rfl, rfl⟩) | (go_at_call 39; refine (spec_l4Pow _ _ _ _ (by omega) (by omega) (by omega) (by omega) (by omega) (by omega)).mono ?_; rintro e w' ⟨rfl, rfl⟩))
    go_ret
    exact ⟨ret_bool (by simp [Nc.grB, h1]), rfl⟩

end Go.Proofs.Ytjpfpnkebjmkaaa
