/- Contracts of the byte strings and of the lists of integers. Conditions: stated with each theorem. -/
import Derived.Test.YtnobbojjhehdfaaEnc2
namespace Go.Proofs.Ytnobbojjhehdfaa
open Go.RowKit
set_option maxRecDepth 100000

set_option maxHeartbeats 400000 in
theorem impl_AppendBytes (A : Option Addr) (n c : Nat) (A2 : Option Addr) (m c2 : Nat) (xs ys : List Int) (w : World) (hx : Rd w w.heap.size A n (xs.map (.int .u8))) (hy : Rd w w.heap.size A2 m (ys.map (.int .u8))) (hn : n ≤ 100000000) (hm : m ≤ 100000000) :
    Calls Try.prog 49 #[.slice A n c, .slice A2 m c2] w (Fresh 5 w ((Nc.encU xs ys.length ++ ys).map (.int .u8))) := by
  obtain ⟨i0, hi0, hz0, hz1, hz2⟩ := info_parts Try.info_byte
  rw [hy.ilen]
  have HX := Lib.hid hx.ilen
  go_enter Try.func49, Try.ntmps49
  go_wp2_with fail
  refine (impl_AppendUvarint _ _ _ _ xs _ hx (by omega)).mono ?_
  rintro e w1 ⟨A1, n1, c1, rfl, ho1, hb1⟩
  have q1 : n1 ≤ 100000007 := by have := ho1.len; simp only [List.length_map] at this; have := Nc.encU_len xs m; rw [HX.out] at this; omega
  have hy1 := hy.below hb1 (Nat.le_refl _)
  have hs1 := hb1.size
  go_wp2_with (at_builtin; refine wpList_appAny _ rfl (.tmp 8) (.tmp 9) _ rfl w.heap.size 5 i0 _ 1 Try.underlying22 hi0 hz0 hz1 hz2 rfl A1 n1 c1 _ rfl ho1.row w.heap.size A2 m c2 _ rfl hy1 (one_ints _ _) (by unfold maxLen; omega) (by omega) hs1 ?_; intro A3 c3 w3 hown3 hb3)
  go_ret
  exact ⟨_, _, _, rfl, by rw [List.map_append]; exact Own.of hown3 (Nat.le_refl _), hb1.trans hb3⟩

set_option maxHeartbeats 400000 in
theorem impl_EncodeInts (A : Option Addr) (n c : Nat) (zs : List Int) (w : World) (hr : Rd w w.heap.size A n (zs.map (.int .i64))) (hn : n ≤ 100000000) :
    Calls Try.prog 51 #[.slice A n c] w (Fresh 5 w ((Nc.encL [] zs).map (.int .u8))) := by
  have HZ := Lib.hid hr.ilen
  go_enter Try.func51, Try.ntmps51
  go_wp2
  go_loopw [3, 8] (fun v i wr => ∃ (k : Nat) (o : List Int) (m : Nat) (A1 : Option Addr) (c1 : Nat), k ≤ n ∧ i = .int .i64 k ∧ v = .slice A1 m c1 ∧ wr.ownsRow w.heap.size 5 1 (.slice A1 m c1) m (o.map (.int .u8)) ∧ m ≤ 7 * k ∧ Nc.EncIs zs k o ∧ Below w.heap.size w wr) (fun _ i _ => n - (intOf i).toNat)
  case atStart => exact ⟨0, [], 0, _, _, Nat.zero_le _, rfl, rfl, World.ownsRow_nil _ _ _ _, by omega, rfl, Below.refl _ _⟩
  case round =>
    obtain ⟨k, o, m, A1, c1, hk, rfl, rfl, hown, hm7, hI, hb⟩ := hrel
    have hsz := hb.size
    by_cases hlt : k < n
    · obtain ⟨b, off, x, rfl, hbB, hx, hc⟩ := (hr.below hb (Nat.le_refl _)).int hlt
      have HN := Lib.hid (Nc.enc_next hI hx)
      clear hx hI
      go_wp2_with fail
      refine (impl_AppendUvarint _ _ _ _ o _ ((Own.of hown (Nat.le_refl _)).rd) (by omega)).mono ?_
      rintro e w1 ⟨A2, n2, c2, rfl, ho2, hb2⟩
      have q2 : n2 ≤ m + 7 := by have h1 := ho2.len; simp only [List.length_map] at h1; have h2 := Nc.encU_len o x; have h3 := hown.1; simp only [List.length_map] at h3; omega
      have ho3 := (ho2.more (lo' := w.heap.size) hsz (Nat.le_refl _)).row
      have hb3 := hb.trans (hb2.mono hsz)
      clear ho2 hb2
      go_wp2_with fail
      go_roundw
      case rel => exact ⟨k + 1, Nc.encU o x, n2, A2, c2, by omega, by go_num, rfl, ho3, by omega, HN.out, hb3⟩
      case measure => simp [intOf]; omega
    · obtain rfl : k = n := by omega
      have HE := Lib.hid (Nc.enc_end hI HZ.out)
      clear hI
      go_wp2
      go_ret
      exact ⟨_, _, _, rfl, by rw [HE.out]; exact Own.of hown (Nat.le_refl _), hb⟩

/-- Three results, the first a slice in new memory. -/
def Fresh3 (e : TypeId) (w : World) (xs : List Value) (nx : Int) (ok : Bool) (r : Ending) (w' : World) : Prop :=
  ∃ A n c, r = .returned (.tuple #[.slice A n c, .int .i64 nx, .bool ok]) ∧ Own w' w.heap.size w'.heap.size e A n c xs ∧ Below w.heap.size w w'
theorem Rd.cut {w : World} {B n : Nat} {A : Option Addr} {xs : List Value} (h : Rd w B A n xs) {a m c : Nat} (ham : a + m ≤ n) (hc : n ≤ c) :
    Rd w B (if c = a then A else A.map (·.add a)) m ((xs.drop a).take m) := by
  have hl := h.1
  refine ⟨by simp; omega, fun hm => ?_⟩
  obtain ⟨b, o, rfl, hb, hcell⟩ := h.2 (by omega)
  rw [if_neg (by omega)]
  refine ⟨b, o + a, by simp [Addr.add_lit], hb, fun j u hu => ?_⟩
  rw [List.getElem?_take] at hu
  split at hu
  · rw [List.getElem?_drop] at hu
    rw [Nat.add_assoc]; exact hcell _ u hu
  · cases hu
theorem impl_ReadUvarint_eq {zs : List Int} {off a b : Int} {ok : Bool} (h : Nc.readU zs off = (a, b, ok)) (A : Option Addr) (n c : Nat) (w : World) (hr : Rd w w.heap.size A n (zs.map (.int .u8))) (hz : ∀ x ∈ zs, 0 ≤ x ∧ x ≤ 255) (hn : n ≤ 1000000000000) (ho : off ≤ 9223372036854775807) :
    Calls Try.prog 55 #[.slice A n c, .int .i64 off] w fun e w' => e = .returned (.tuple #[.int .i64 a, .int .i64 b, .bool ok]) ∧ w = w' := by
  refine (impl_ReadUvarint A n c off zs w hr hz hn ho).mono ?_
  rintro e w' ⟨rfl, rfl⟩
  rw [h]; exact ⟨rfl, rfl⟩
theorem impl_ReadUvarint_t (A : Option Addr) (n c : Nat) (off : Int) (zs : List Int) (w : World) (hr : Rd w w.heap.size A n (zs.map (.int .u8))) (hz : ∀ x ∈ zs, 0 ≤ x ∧ x ≤ 255) (hn : n ≤ 1000000000000) (ho : off ≤ 9223372036854775807) :
    Calls Try.prog 55 #[.slice A n c, .int .i64 off] w fun e w' => e = .returned (.tuple #[.int .i64 (Nc.readU zs off).1, .int .i64 (Nc.readU zs off).2.1, .bool (Nc.readU zs off).2.2]) ∧ w = w' :=
  impl_ReadUvarint_eq rfl A n c w hr hz hn ho
set_option maxHeartbeats 1000000 in
theorem impl_ReadBytes (A : Option Addr) (n c : Nat) (off most : Int) (zs : List Int) (w : World) (hr : Rd w w.heap.size A n (zs.map (.int .u8))) (hz : ∀ x ∈ zs, 0 ≤ x ∧ x ≤ 255) (hn : n ≤ 100000000) (hnc : n ≤ c) (hc63 : c ≤ 9223372036854775807) (ho : off ≤ 9223372036854775807) :
    Calls Try.prog 50 #[.slice A n c, .int .i64 off, .int .i64 most] w (Fresh3 5 w ((Nc.readB zs off most).1.map (.int .u8)) (Nc.readB zs off most).2.1 (Nc.readB zs off most).2.2) := by
  obtain ⟨i0, hi0, hz0, hz1, hz2⟩ := info_parts Try.info_byte
  have HZ := Lib.hid hr.ilen
  have HB := Lib.hid hz
  clear hz
  cases hok : (Nc.readU zs off).2.2
  · have HU := Lib.hid (Nc.readU_no hok)
    have HR := Lib.hid (show Nc.readB zs off most = ([], 0, false) by simp [Nc.readB, hok])
    clear hok
    rw [HR.out]
    go_enter Try.func50, Try.ntmps50
    go_wp2_with (go_at_call 55; refine (impl_ReadUvarint_eq HU.out _ _ _ _ hr HB.out (by omega) ho).mono ?_; rintro e w' ⟨rfl, rfl⟩)
    go_ret3
    exact ⟨_, _, _, rfl, Own.of (World.ownsRow_nil _ _ _ _) (Nat.le_refl _), Below.refl _ _⟩
  · obtain ⟨o0, s0, s1, a0, a1⟩ := Nc.readU_ok HB.out hok
    rw [HZ.out] at a1
    obtain ⟨m, hm⟩ := Int.eq_ofNat_of_zero_le s0
    obtain ⟨a, ha⟩ := Int.eq_ofNat_of_zero_le (show 0 ≤ (Nc.readU zs off).2.1 by omega)
    have HU := Lib.hid (show Nc.readU zs off = ((m : Int), (a : Int), true) by rw [← hm, ← ha, ← hok])
    by_cases hbad : most < m ∨ (n : Int) - a < m
    · have HR := Lib.hid (show Nc.readB zs off most = ([], 0, false) by unfold Nc.readB; rw [HU.out, HZ.out]; simp; omega)
      rw [HR.out]
      rw [hm] at s0 s1
      rw [ha] at a0 a1
      clear hok hm ha
      by_cases hmo : most < m
      all_goals
        go_enter Try.func50, Try.ntmps50
        go_wp2_with (go_at_call 55; refine (impl_ReadUvarint_eq HU.out _ _ _ _ hr HB.out (by omega) ho).mono ?_; rintro e w' ⟨rfl, rfl⟩)
        go_ret3
        exact ⟨_, _, _, rfl, Own.of (World.ownsRow_nil _ _ _ _) (Nat.le_refl _), Below.refl _ _⟩
    · have HR := Lib.hid (show Nc.readB zs off most = ((zs.drop a).take m, (a : Int) + m, true) by unfold Nc.readB; rw [HU.out, HZ.out]; simp; omega)
      rw [HR.out]
      rw [hm] at s0 s1
      rw [ha] at a0 a1
      clear hok hm ha
      have hcut := hr.cut (a := a) (m := m) (c := c) (by omega) hnc
      rw [← List.map_drop, ← List.map_take] at hcut
      by_cases hca : c = a
      · subst hca
        rw [if_pos rfl] at hcut
        go_enter Try.func50, Try.ntmps50
        go_wp2_with (go_at_call 55; refine (impl_ReadUvarint_eq HU.out _ _ _ _ hr HB.out (by omega) ho).mono ?_; rintro e w' ⟨rfl, rfl⟩)
        refine (slices_Clone_byte _ _ _ ((zs.drop c).take m) _ hcut (by omega)).mono ?_
        rintro e w1 ⟨A1, n1, c1, rfl, ho1, hb1⟩
        go_wp2_with fail
        go_ret3
        exact ⟨_, _, _, rfl, ho1, hb1⟩
      · rw [if_neg hca] at hcut
        go_enter Try.func50, Try.ntmps50
        go_wp2_with (go_at_call 55; refine (impl_ReadUvarint_eq HU.out _ _ _ _ hr HB.out (by omega) ho).mono ?_; rintro e w' ⟨rfl, rfl⟩)
        refine (slices_Clone_byte _ _ _ ((zs.drop a).take m) _ hcut (by omega)).mono ?_
        rintro e w1 ⟨A1, n1, c1, rfl, ho1, hb1⟩
        go_wp2_with fail
        go_ret3
        exact ⟨_, _, _, rfl, ho1, hb1⟩

theorem spec_ReadUvarint_eq {zs : List Int} {off a b : Int} {ok : Bool} (h : Nc.readU zs off = (a, b, ok)) (A : Option Addr) (n c : Nat) (w : World) (hr : Rd w w.heap.size A n (zs.map (.int .u8))) (hz : ∀ x ∈ zs, 0 ≤ x ∧ x ≤ 255) (hn : n ≤ 1000000000000) (ho : off ≤ 9223372036854775807) :
    Calls Try.prog 57 #[.slice A n c, .int .i64 off] w fun e w' => e = .returned (.tuple #[.int .i64 a, .int .i64 b, .bool ok]) ∧ w = w' := by
  refine (spec_ReadUvarint A n c off zs w hr hz hn ho).mono ?_
  rintro e w' ⟨rfl, rfl⟩
  rw [h]; exact ⟨rfl, rfl⟩
theorem spec_ReadUvarint_t (A : Option Addr) (n c : Nat) (off : Int) (zs : List Int) (w : World) (hr : Rd w w.heap.size A n (zs.map (.int .u8))) (hz : ∀ x ∈ zs, 0 ≤ x ∧ x ≤ 255) (hn : n ≤ 1000000000000) (ho : off ≤ 9223372036854775807) :
    Calls Try.prog 57 #[.slice A n c, .int .i64 off] w fun e w' => e = .returned (.tuple #[.int .i64 (Nc.readU zs off).1, .int .i64 (Nc.readU zs off).2.1, .bool (Nc.readU zs off).2.2]) ∧ w = w' :=
  spec_ReadUvarint_eq rfl A n c w hr hz hn ho
set_option maxHeartbeats 1000000 in
theorem impl_DecodeInts (A : Option Addr) (n c : Nat) (off count : Int) (zs : List Int) (w : World) (hr : Rd w w.heap.size A n (zs.map (.int .u8))) (hz : ∀ x ∈ zs, 0 ≤ x ∧ x ≤ 255) (hn : n ≤ 100000000) :
    Calls Try.prog 52 #[.slice A n c, .int .i64 off, .int .i64 count] w (Fresh3 3 w ((Nc.decI zs off count).1.map (.int .i64)) (Nc.decI zs off count).2.1 (Nc.decI zs off count).2.2) := by
  obtain ⟨i0, hi0, hz0, hz1, hz2⟩ := info_parts Try.info_int
  have HZ := Lib.hid hr.ilen
  have HB := Lib.hid hz
  clear hz
  cases h1 : Nc.inB count 0 100 <;> cases h2 : Nc.inB off 0 n
  case true.true =>
    obtain ⟨b3, b4⟩ := Nc.inB_true h1
    obtain ⟨b5, b6⟩ := Nc.inB_true h2
    obtain ⟨q, hq⟩ := Int.eq_ofNat_of_zero_le b3
    subst hq
    have HS := Lib.hid (show Nc.DecIs zs (Nc.decI zs off q) (q - 0) off [] by unfold Nc.DecIs Nc.decI; rw [HZ.out, h1, h2]; rfl)
    obtain ⟨R, hR⟩ : ∃ R, R = Nc.decI zs off q := ⟨_, rfl⟩
    rw [← hR] at HS ⊢
    clear hR
    go_enter Try.func52, Try.ntmps52
    go_wp2_with (go_at_call 86; refine (impl_InRange _ _ _ _).mono ?_; rintro e w' ⟨rfl, rfl⟩)
    go_loopw [1, 9, 24] (fun f v i wr => ∃ (k : Nat) (o : List Int) (p : Int) (A1 : Option Addr) (c1 : Nat), k ≤ q ∧ i = .int .i64 k ∧ f = .int .i64 p ∧ p ≤ n ∧ v = .slice A1 k c1 ∧ wr.ownsRow w.heap.size 3 1 (.slice A1 k c1) k (o.map (.int .i64)) ∧ Nc.DecIs zs R (q - k) p o ∧ Below w.heap.size w wr) (fun _ _ i _ => q - (intOf i).toNat)
    case atStart => exact ⟨0, [], off, _, _, Nat.zero_le _, rfl, rfl, b6, rfl, World.ownsRow_nil _ _ _ _, HS.out, Below.refl _ _⟩
    case round =>
      obtain ⟨k, o, p, A1, c1, hk, rfl, rfl, hpn, rfl, hown, hI, hb⟩ := hrel
      have hsz := hb.size
      by_cases hlt : k < q
      · cases hok : (Nc.readU zs p).2.2
        · have HU := Lib.hid (Nc.readU_no hok)
          have HN := Lib.hid (Nc.dec_no hI (by omega) hok)
          clear hok hI
          have hr1 := (hr.below hb (Nat.le_refl _)).more hsz
          go_wp2_with fail
          refine (impl_ReadUvarint_eq HU.out _ _ _ _ hr1 HB.out (by omega) (by omega)).mono ?_
          rintro e w' ⟨rfl, rfl⟩
          go_wp2_with fail
          go_ret3
          rw [HN.out]
          exact ⟨_, _, _, rfl, Own.of (World.ownsRow_nil _ _ _ _) (Nat.le_refl _), hb⟩
        · obtain ⟨o0, s0, s1, a0, a1⟩ := Nc.readU_ok HB.out hok
          rw [HZ.out] at a1
          have HN := Lib.hid (Nc.dec_next hI hlt hok)
          obtain ⟨x, hx⟩ : ∃ x, x = (Nc.readU zs p).1 := ⟨_, rfl⟩
          obtain ⟨y, hy⟩ : ∃ y, y = (Nc.readU zs p).2.1 := ⟨_, rfl⟩
          have HU := Lib.hid (show Nc.readU zs p = (x, y, true) by rw [hx, hy, ← hok])
          rw [← hx, ← hy] at HN
          rw [← hx] at s0 s1
          rw [← hy] at a0 a1
          clear hok hI hx hy
          have hr1 := (hr.below hb (Nat.le_refl _)).more hsz
          go_wp2_with fail
          refine (impl_ReadUvarint_eq HU.out _ _ _ _ hr1 HB.out (by omega) (by omega)).mono ?_
          rintro e w' ⟨rfl, rfl⟩
          go_wp2_with (at_builtin; refine wpList_app1 _ rfl _ _ _ rfl w.heap.size 3 i0 _ 8 Try.underlying30 hi0 hz0 hz1 hz2 rfl A1 k c1 _ rfl hown (.int .i64 x) rfl _ rfl (by unfold maxLen; omega) (by omega) (by omega) ?_; intro A2 c2 w2 hown2 hb2)
          go_roundw
          case rel => exact ⟨k + 1, o ++ [x], y, A2, c2, by omega, by go_num, rfl, a1, rfl, by rw [List.map_append]; exact hown2, HN.out, hb.trans hb2⟩
          case measure => simp [intOf]; omega
      · obtain rfl : k = q := by omega
        have HN := Lib.hid (Nc.dec_end hI)
        clear hI
        go_wp2
        go_ret3
        rw [HN.out]
        exact ⟨_, _, _, rfl, Own.of hown (Nat.le_refl _), hb⟩
  all_goals
    have HR := Lib.hid (show Nc.decI zs off count = ([], 0, false) by unfold Nc.decI; rw [HZ.out, h1, h2]; rfl)
    rw [HR.out]
    go_enter Try.func52, Try.ntmps52
    go_wp2_with (go_at_call 86; refine (impl_InRange _ _ _ _).mono ?_; rintro e w' ⟨rfl, rfl⟩)
    go_ret3
    exact ⟨_, _, _, rfl, Own.of (World.ownsRow_nil _ _ _ _) (Nat.le_refl _), Below.refl _ _⟩

end Go.Proofs.Ytnobbojjhehdfaa
