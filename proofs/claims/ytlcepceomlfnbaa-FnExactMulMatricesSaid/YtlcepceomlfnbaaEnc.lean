/- Contracts of the encoding functions: cloning, varints. Conditions: stated with each theorem. -/
import Derived.Test.YtlcepceomlfnbaaVec3
import Derived.Lib.SliceRun
namespace Go.Proofs.Ytlcepceomlfnbaa
open Go.RowKit

theorem one_ints (k : IntKind) (zs : List Int) : ∀ u ∈ zs.map (Value.int k), u.oneCell' = true := by
  intro u hu; obtain ⟨x, _, rfl⟩ := List.mem_map.1 hu; rfl
theorem i64_and127 (x : Int) (h₀ : 0 ≤ x) (h₁ : x < 9223372036854775808) : bits .and .i64 x 127 = x % 128 :=
  bits_mask .i64 63 (by decide) wraps_i64 7 (by decide) x h₀ h₁
theorem u8_and127 (x : Int) (h₀ : 0 ≤ x) (h₁ : x ≤ 255) : bits .and .u8 x 127 = x % 128 :=
  bits_mask .u8 8 (by decide) wraps_u8 7 (by decide) x h₀ (by omega)
theorem bits_or_comm (k : IntKind) (a b : Int) : bits .or k a b = bits .or k b a := by
  simp only [bits, BitVec.or_comm]
theorem i64_or128 (x : Int) (h₀ : 0 ≤ x) (h₁ : x < 128) : bits .or .i64 x 128 = x + 128 := by
  rw [bits_or_comm, bits_join .i64 63 (by decide) wraps_i64 7 128 x (by decide) (by decide) (by decide) h₀ h₁ (by omega)]; omega
/-- 'x | y' where y is a multiple of 2^i and x lies below it. -/
theorem i64_orlow (i : Nat) (x y : Int) (hx0 : 0 ≤ x) (hx : x < 2 ^ i) (hi : i ≤ 62) (hy0 : 0 ≤ y) (hy : y % 2 ^ i = 0) (hy1 : y < 9223372036854775808) : bits .or .i64 x y = x + y := by
  have hp : (2 : Int) ^ i ≤ 2 ^ 62 := by
    have : 2 ^ i ≤ 2 ^ 62 := Nat.pow_le_pow_right (by decide) hi
    exact_mod_cast this
  rw [bits_or_comm, bits_join .i64 63 (by decide) wraps_i64 i y x hy0 hy hy1 hx0 hx (by omega)]; omega
theorem u8_and128 : ∀ x : Int, 0 ≤ x → x ≤ 255 → bits .and .u8 x 128 = if 128 ≤ x then 128 else 0 := by
  have h : ∀ n : Fin 256, bits .and .u8 ((n.val : Nat) : Int) 128 = if (128 : Int) ≤ (n.val : Int) then 128 else 0 := by decide +kernel
  intro x h0 h1
  have := h ⟨x.toNat, by omega⟩
  simpa [Int.toNat_of_nonneg h0] using this

set_option maxHeartbeats 400000 in
theorem slices_Clone_int (A : Option Addr) (n c : Nat) (zs : List Int) (w : World) (hr : Rd w w.heap.size A n (zs.map (.int .i64))) (hn : n ≤ 1099511627776) :
    Calls Try.prog 51 #[.slice A n c] w (Fresh 3 w (zs.map (.int .i64))) := by
  obtain ⟨i0, hi0, hz0, hz1, hz2⟩ := info_parts Try.info_int
  have hnil := fun w => Lib.run_eql_slice_nil (P := Try.prog) w 22 3 A n c 0 0 Try.underlying22
  cases A with
  | none =>
    have h0 : n = 0 := by
      rcases Nat.eq_zero_or_pos n with h0 | h0
      · exact h0
      · obtain ⟨_, _, h', _⟩ := hr.2 h0; cases h'
    subst h0
    have HZ := Lib.hid (show zs = [] from List.eq_nil_of_length_eq_zero hr.ilen)
    go_enter Try.func51, Try.ntmps51
    go_wp2
    go_ret
    exact ⟨_, _, _, rfl, by rw [HZ.out]; exact Own.of (World.ownsRow_nil _ _ _ _) (Nat.le_refl _), Below.refl _ _⟩
  | some a =>
    go_enter Try.func51, Try.ntmps51
    go_wp2_with (at_builtin; refine wpList_appAny _ rfl _ _ _ rfl w.heap.size 3 i0 _ 8 Try.underlying22 hi0 hz0 hz1 hz2 rfl _ 0 0 [] rfl (World.ownsRow_lit w #[] 0 (Nat.le_refl _) (by decide) rfl) w.heap.size (some a) n c _ rfl (hr.below ((Below.refl _ _).alloc (Nat.le_refl _) _) (Nat.le_refl _)) (one_ints _ _) (by unfold maxLen; omega) (by omega) (by simp) ?_; intro A1 c1 w1 hown1 hb1)
    go_ret
    simp only [Nat.zero_add, List.nil_append] at hown1
    exact ⟨_, _, _, rfl, Own.of hown1 (Nat.le_refl _), ((Below.refl _ _).alloc (Nat.le_refl _) _).trans hb1⟩

end Go.Proofs.Ytlcepceomlfnbaa
