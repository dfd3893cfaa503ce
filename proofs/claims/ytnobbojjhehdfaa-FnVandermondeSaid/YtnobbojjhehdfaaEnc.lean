/- Contracts of the encoding functions: cloning, varints. Conditions: stated with each theorem. -/
import Derived.Test.YtnobbojjhehdfaaVec3
import Derived.Lib.SliceRun
namespace Go.Proofs.Ytnobbojjhehdfaa
open Go.RowKit
set_option maxRecDepth 100000

theorem Try.info_byte : (Try.prog.info? 5).map (fun i => (i.zero, i.size, i.bytes)) = some (some (.int .u8 0), 1, 1) := by kernel_rfl
theorem one_ints (k : IntKind) (zs : List Int) : ∀ u ∈ zs.map (Value.int k), u.oneCell' = true := by
  intro u hu; obtain ⟨x, _, rfl⟩ := List.mem_map.1 hu; rfl
theorem i64_and127 (x : Int) (h₀ : 0 ≤ x) (h₁ : x < 9223372036854775808) : bits .and .i64 x 127 = x % 128 :=
  bits_mask .i64 63 (by decide) wraps_i64 7 (by decide) x h₀ h₁
theorem u8_and127 (x : Int) (h₀ : 0 ≤ x) (h₁ : x ≤ 255) : bits .and .u8 x 127 = x % 128 :=
  bits_mask .u8 8 (by decide) wraps_u8 7 (by decide) x h₀ (by omega)
theorem bits_or_comm (k : IntKind) (a b : Int) : bits .or k a b = bits .or k b a := by
  simp only [bits, BitVec.or_comm]
theorem i64_or128 (x : Int) (h₀ : 0 ≤ x) (h₁ : x < 128) : bits .or .i64 x 128 = x + 128 := by
  rw [bits_or_comm, bits_join .i64 63 (by decide) wraps_i64 7 128 x (by decide) (by decide) (by decide) h₀ h₁ (by omega)]; omega
/-- 'x | y' where y is a multiple of 2^i and x lies below it. -/
theorem i64_orlow (i : Nat) (x y : Int) (hx0 : 0 ≤ x) (hx : x < 2 ^ i) (hi : i ≤ 62) (hy0 : 0 ≤ y) (hy : y % 2 ^ i = 0) (hy1 : y < 9223372036854775808) : bits .or .i64 x y = x + y := by
  have hp : (2 : Int) ^ i ≤ 2 ^ 62 := by
    have : 2 ^ i ≤ 2 ^ 62 := Nat.pow_le_pow_right (by decide) hi
    exact_mod_cast this
  rw [bits_or_comm, bits_join .i64 63 (by decide) wraps_i64 i y x hy0 hy hy1 hx0 hx (by omega)]; omega
theorem u8_and128 : ∀ x : Int, 0 ≤ x → x ≤ 255 → bits .and .u8 x 128 = if 128 ≤ x then 128 else 0 := by
  have h : ∀ n : Fin 256, bits .and .u8 ((n.val : Nat) : Int) 128 = if (128 : Int) ≤ (n.val : Int) then 128 else 0 := by decide +kernel
  intro x h0 h1
  have := h ⟨x.toNat, by omega⟩
  simpa [Int.toNat_of_nonneg h0] using this

set_option maxHeartbeats 400000 in
theorem slices_Clone_byte (A : Option Addr) (n c : Nat) (zs : List Int) (w : World) (hr : Rd w w.heap.size A n (zs.map (.int .u8))) (hn : n ≤ 1099511627776) :
    Calls Try.prog 98 #[.slice A n c] w (Fresh 5 w (zs.map (.int .u8))) := by
  obtain ⟨i0, hi0, hz0, hz1, hz2⟩ := info_parts Try.info_byte
  have hnil := fun w => Lib.run_eql_slice_nil (P := Try.prog) w 22 5 A n c 0 0 Try.underlying22
  cases A with
  | none =>
    have h0 : n = 0 := by
      rcases Nat.eq_zero_or_pos n with h0 | h0
      · exact h0
      · obtain ⟨_, _, h', _⟩ := hr.2 h0; cases h'
    subst h0
    have HZ := Lib.hid (show zs = [] from List.eq_nil_of_length_eq_zero hr.ilen)
    go_enter Try.func98, Try.ntmps98
    go_wp2
    go_ret
    exact ⟨_, _, _, rfl, by rw [HZ.out]; exact Own.of (World.ownsRow_nil _ _ _ _) (Nat.le_refl _), Below.refl _ _⟩
  | some a =>
    go_enter Try.func98, Try.ntmps98
    go_wp2_with (at_builtin; refine wpList_appAny _ rfl _ _ _ rfl w.heap.size 5 i0 _ 1 Try.underlying22 hi0 hz0 hz1 hz2 rfl _ 0 0 [] rfl (World.ownsRow_lit w #[] 0 (Nat.le_refl _) (by decide) rfl) w.heap.size (some a) n c _ rfl (hr.below ((Below.refl _ _).alloc (Nat.le_refl _) _) (Nat.le_refl _)) (one_ints _ _) (by unfold maxLen; omega) (by omega) (by simp) ?_; intro A1 c1 w1 hown1 hb1)
    go_ret
    simp only [Nat.zero_add, List.nil_append] at hown1
    exact ⟨_, _, _, rfl, Own.of hown1 (Nat.le_refl _), ((Below.refl _ _).alloc (Nat.le_refl _) _).trans hb1⟩

set_option maxHeartbeats 400000 in
theorem slices_Clone_int (A : Option Addr) (n c : Nat) (zs : List Int) (w : World) (hr : Rd w w.heap.size A n (zs.map (.int .i64))) (hn : n ≤ 1099511627776) :
    Calls Try.prog 114 #[.slice A n c] w (Fresh 3 w (zs.map (.int .i64))) := by
  obtain ⟨i0, hi0, hz0, hz1, hz2⟩ := info_parts Try.info_int
  have hnil := fun w => Lib.run_eql_slice_nil (P := Try.prog) w 30 3 A n c 0 0 Try.underlying30
  cases A with
  | none =>
    have h0 : n = 0 := by
      rcases Nat.eq_zero_or_pos n with h0 | h0
      · exact h0
      · obtain ⟨_, _, h', _⟩ := hr.2 h0; cases h'
    subst h0
    have HZ := Lib.hid (show zs = [] from List.eq_nil_of_length_eq_zero hr.ilen)
    go_enter Try.func114, Try.ntmps114
    go_wp2
    go_ret
    exact ⟨_, _, _, rfl, by rw [HZ.out]; exact Own.of (World.ownsRow_nil _ _ _ _) (Nat.le_refl _), Below.refl _ _⟩
  | some a =>
    go_enter Try.func114, Try.ntmps114
    go_wp2_with (at_builtin; refine wpList_appAny _ rfl _ _ _ rfl w.heap.size 3 i0 _ 8 Try.underlying30 hi0 hz0 hz1 hz2 rfl _ 0 0 [] rfl (World.ownsRow_lit w #[] 0 (Nat.le_refl _) (by decide) rfl) w.heap.size (some a) n c _ rfl (hr.below ((Below.refl _ _).alloc (Nat.le_refl _) _) (Nat.le_refl _)) (one_ints _ _) (by unfold maxLen; omega) (by omega) (by simp) ?_; intro A1 c1 w1 hown1 hb1)
    go_ret
    simp only [Nat.zero_add, List.nil_append] at hown1
    exact ⟨_, _, _, rfl, Own.of hown1 (Nat.le_refl _), ((Below.refl _ _).alloc (Nat.le_refl _) _).trans hb1⟩

set_option maxHeartbeats 1000000 in
theorem impl_AppendUvarint (A : Option Addr) (n c : Nat) (N : Int) (zs : List Int) (w : World) (hr : Rd w w.heap.size A n (zs.map (.int .u8))) (hn : n ≤ 1000000000000) :
    Calls Try.prog 54 #[.slice A n c, .int .i64 N] w (Fresh 5 w ((Nc.encU zs N).map (.int .u8))) := by
  obtain ⟨i0, hi0, hz0, hz1, hz2⟩ := info_parts Try.info_byte
  have HZ := Lib.hid hr.ilen
  cases h1 : Nc.inB N 0 1000000000000
  · have HU := Lib.hid (show Nc.encU zs N = zs by simp [Nc.encU, h1])
    go_enter Try.func54, Try.ntmps54
    go_wp2_with fail
    refine (slices_Clone_byte _ _ _ zs _ hr (by omega)).mono ?_
    rintro e w1 ⟨A1, n1, c1, rfl, ho1, hb1⟩
    have hown1 := ho1.row
    have HL1 := Lib.hid ho1.len
    clear ho1
    go_wp2_with (go_at_call 86; refine (impl_InRange _ _ _ _).mono ?_; rintro e w' ⟨rfl, rfl⟩)
    go_ret
    exact ⟨_, _, _, rfl, by rw [HU.out]; exact Own.of hown1 (Nat.le_refl _), hb1⟩
  · obtain ⟨b3, b4⟩ := Nc.inB_true h1
    have HS := Lib.hid (Nc.uvInv_start (b := zs) h1)
    go_enter Try.func54, Try.ntmps54
    go_wp2_with fail
    refine (slices_Clone_byte _ _ _ zs _ hr (by omega)).mono ?_
    rintro e w1 ⟨A1, n1, c1, rfl, ho1, hb1⟩
    have hown1 := ho1.row
    have HL1 := Lib.hid ho1.len
    clear ho1
    go_wp2_with (go_at_call 86; refine (impl_InRange _ _ _ _).mono ?_; rintro e w' ⟨rfl, rfl⟩)
    go_loopw [1, 5] (fun q v wr => ∃ (cur : Int) (o : List Int) (k : Nat) (A2 : Option Addr) (c2 : Nat), q = .int .i64 cur ∧ v = .slice A2 k c2 ∧ o.length = k ∧ wr.ownsRow w.heap.size 5 1 (.slice A2 k c2) k (o.map (.int .u8)) ∧ cur ≤ N ∧ Nc.UvInv zs N o cur ∧ Below w.heap.size w wr) (fun q _ _ => (intOf q).toNat)
    case atStart => exact ⟨N, zs, _, _, _, rfl, rfl, by simpa using HL1.out, hown1, by omega, HS.out, hb1⟩
    case round =>
      obtain ⟨cur, o, k, A2, c2, rfl, rfl, hok, hown, hcN, hI, hb⟩ := hrel
      have hsz := hb.size
      have HI := Lib.hid hI
      obtain ⟨q1, q2⟩ := Nc.uvInv_len hI
      rw [hok, HZ.out] at q1
      have HK := Lib.hid hok
      clear hI hok
      by_cases hge : 128 ≤ cur
      · have e1 := i64_and127 cur q2 (by omega)
        have e2 := i64_or128 (cur % 128) (by omega) (by omega)
        go_wp2_with (at_builtin; refine wpList_app1 _ rfl _ _ _ rfl w.heap.size 5 i0 _ 1 Try.underlying22 hi0 hz0 hz1 hz2 rfl A2 k c2 _ rfl hown (.int .u8 (cur % 128 + 128)) rfl _ rfl (by unfold maxLen; omega) (by omega) (by omega) ?_; intro A3 c3 w3 hown3 hb3)
        go_roundw
        case rel => exact ⟨cur / 128, o ++ [cur % 128 + 128], k + 1, A3, c3, by go_num, rfl, by simp [HK.out], by rw [List.map_append]; exact hown3, by omega, Nc.uvInv_next HI.out hge, hb.trans hb3⟩
        case measure => simp [intOf]; omega
      · have HE := Lib.hid (Nc.uvInv_end HI.out (by omega) h1)
        go_wp2_with (at_builtin; refine wpList_app1 _ rfl _ _ _ rfl w.heap.size 5 i0 _ 1 Try.underlying22 hi0 hz0 hz1 hz2 rfl A2 k c2 _ rfl hown (.int .u8 cur) rfl _ rfl (by unfold maxLen; omega) (by omega) (by omega) ?_; intro A3 c3 w3 hown3 hb3)
        go_ret
        exact ⟨_, _, _, rfl, by rw [HE.out.1, List.map_append]; exact Own.of hown3 (Nat.le_refl _), hb.trans hb3⟩

set_option maxHeartbeats 1000000 in
theorem spec_AppendUvarint (A : Option Addr) (n c : Nat) (N : Int) (zs : List Int) (w : World) (hr : Rd w w.heap.size A n (zs.map (.int .u8))) (hn : n ≤ 1000000000000) :
    Calls Try.prog 106 #[.slice A n c, .int .i64 N] w (Fresh 5 w ((Nc.encU zs N).map (.int .u8))) := by
  obtain ⟨i0, hi0, hz0, hz1, hz2⟩ := info_parts Try.info_byte
  have HZ := Lib.hid hr.ilen
  cases h1 : Nc.inB N 0 1000000000000
  · have HU := Lib.hid (show Nc.encU zs N = zs by simp [Nc.encU, h1])
    go_enter Try.func106, Try.ntmps106
    go_wp2_with (at_builtin; refine wpList_appAny _ rfl (.tmp 6) (.tmp 7) _ rfl w.heap.size 5 i0 _ 1 Try.underlying22 hi0 hz0 hz1 hz2 rfl _ 0 0 [] rfl (World.ownsRow_lit w #[] 0 (Nat.le_refl _) (by decide) rfl) w.heap.size A n c _ rfl (hr.below ((Below.refl _ _).alloc (Nat.le_refl _) _) (Nat.le_refl _)) (one_ints _ _) (by unfold maxLen; omega) (by omega) (by simp) ?_; intro A1 c1 w1 hown1 hb1; simp only [Nat.zero_add, List.nil_append] at hown1; replace hb1 := ((Below.refl _ _).alloc (Nat.le_refl _) _).trans hb1)
    go_wp2_with (go_at_call 89; refine (spec_l1In _ _ _ _).mono ?_; rintro e w' ⟨rfl, rfl⟩)
    go_ret
    exact ⟨_, _, _, rfl, by rw [HU.out]; exact Own.of hown1 (Nat.le_refl _), hb1⟩
  · obtain ⟨b3, b4⟩ := Nc.inB_true h1
    have HS := Lib.hid (Nc.uvInv_start (b := zs) h1)
    go_enter Try.func106, Try.ntmps106
    go_wp2_with (at_builtin; refine wpList_appAny _ rfl (.tmp 6) (.tmp 7) _ rfl w.heap.size 5 i0 _ 1 Try.underlying22 hi0 hz0 hz1 hz2 rfl _ 0 0 [] rfl (World.ownsRow_lit w #[] 0 (Nat.le_refl _) (by decide) rfl) w.heap.size A n c _ rfl (hr.below ((Below.refl _ _).alloc (Nat.le_refl _) _) (Nat.le_refl _)) (one_ints _ _) (by unfold maxLen; omega) (by omega) (by simp) ?_; intro A1 c1 w1 hown1 hb1; simp only [Nat.zero_add, List.nil_append] at hown1; replace hb1 := ((Below.refl _ _).alloc (Nat.le_refl _) _).trans hb1)
    go_wp2_with (go_at_call 89; refine (spec_l1In _ _ _ _).mono ?_; rintro e w' ⟨rfl, rfl⟩)
    go_loopw [1, 5] (fun q v wr => ∃ (cur : Int) (o : List Int) (k : Nat) (A2 : Option Addr) (c2 : Nat), q = .int .i64 cur ∧ v = .slice A2 k c2 ∧ o.length = k ∧ wr.ownsRow w.heap.size 5 1 (.slice A2 k c2) k (o.map (.int .u8)) ∧ cur ≤ N ∧ Nc.UvInv zs N o cur ∧ Below w.heap.size w wr) (fun q _ _ => (intOf q).toNat)
    case atStart => exact ⟨N, zs, _, _, _, rfl, rfl, HZ.out, hown1, by omega, HS.out, hb1⟩
    case round =>
      obtain ⟨cur, o, k, A2, c2, rfl, rfl, hok, hown, hcN, hI, hb⟩ := hrel
      have hsz := hb.size
      have HI := Lib.hid hI
      obtain ⟨q1, q2⟩ := Nc.uvInv_len hI
      rw [hok, HZ.out] at q1
      have HK := Lib.hid hok
      clear hI hok
      by_cases hge : 128 ≤ cur
      · have e1 := i64_and127 cur q2 (by omega)
        have e2 := i64_or128 (cur % 128) (by omega) (by omega)
        go_wp2_with (at_builtin; refine wpList_app1 _ rfl _ _ _ rfl w.heap.size 5 i0 _ 1 Try.underlying22 hi0 hz0 hz1 hz2 rfl A2 k c2 _ rfl hown (.int .u8 (cur % 128 + 128)) rfl _ rfl (by unfold maxLen; omega) (by omega) (by omega) ?_; intro A3 c3 w3 hown3 hb3)
        go_roundw
        case rel => exact ⟨cur / 128, o ++ [cur % 128 + 128], k + 1, A3, c3, by go_num, rfl, by simp [HK.out], by rw [List.map_append]; exact hown3, by omega, Nc.uvInv_next HI.out hge, hb.trans hb3⟩
        case measure => simp [intOf]; omega
      · have HE := Lib.hid (Nc.uvInv_end HI.out (by omega) h1)
        go_wp2_with (at_builtin; refine wpList_app1 _ rfl _ _ _ rfl w.heap.size 5 i0 _ 1 Try.underlying22 hi0 hz0 hz1 hz2 rfl A2 k c2 _ rfl hown (.int .u8 cur) rfl _ rfl (by unfold maxLen; omega) (by omega) (by omega) ?_; intro A3 c3 w3 hown3 hb3)
        go_ret
        exact ⟨_, _, _, rfl, by rw [HE.out.1, List.map_append]; exact Own.of hown3 (Nat.le_refl _), hb.trans hb3⟩

end Go.Proofs.Ytnobbojjhehdfaa
