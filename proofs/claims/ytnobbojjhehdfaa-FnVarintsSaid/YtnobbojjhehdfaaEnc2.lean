/- Contracts of the readers of varints. Conditions: stated with each theorem. -/
import Derived.Test.YtnobbojjhehdfaaEnc
namespace Go.Proofs.Ytnobbojjhehdfaa
open Go.RowKit
set_option maxRecDepth 100000

/-- Three results of ReadUvarint. -/
def Tup3 (t : Int × Int × Bool) : Value := .tuple #[.int .i64 t.1, .int .i64 t.2.1, .bool t.2.2]
theorem ret_tup3 {t : Int × Int × Bool} {a b : Int} {c : Bool} (h : t = (a, b, c)) : Ending.returned (.tuple #[.int .i64 a, .int .i64 b, .bool c]) = .returned (Tup3 t) := by rw [h]; rfl

theorem pow7 (k : Nat) : (2 : Int) ^ (7 * k) = 128 ^ k := by rw [Int.pow_mul]; rfl
theorem or_step (k : Nat) (acc x : Int) (hk : k < 6) (h0 : 0 ≤ acc) (h1 : acc < 128 ^ k) : bits BinOp.or IntKind.i64 acc (wrap64 (x % 128 * 2 ^ (7 * k))) = acc + x % 128 * 128 ^ k := by
  have hp := Nc.pow128_pos k
  have hm : 0 ≤ x % 128 * 128 ^ k := Int.mul_nonneg (by omega) (by omega)
  have hm2 : x % 128 * 128 ^ k ≤ 127 * 128 ^ k := Int.mul_le_mul_of_nonneg_right (by omega) (by omega)
  have hq : (128 : Int) ^ k ≤ 128 ^ 5 := by
    have : 128 ^ k ≤ 128 ^ 5 := Nat.pow_le_pow_right (by decide) (by omega)
    exact_mod_cast this
  have hq5 : (128 : Int) ^ 5 = 34359738368 := by decide
  rw [pow7, IntWalk.wrap64_in _ ⟨by omega, by omega⟩]
  refine i64_orlow (7 * k) _ _ h0 (by rw [pow7]; exact h1) (by omega) hm ?_ (by omega)
  rw [pow7]; exact Int.mul_emod_left _ _

set_option maxHeartbeats 2000000 in
theorem impl_ReadUvarint (A : Option Addr) (n c : Nat) (off : Int) (zs : List Int) (w : World) (hr : Rd w w.heap.size A n (zs.map (.int .u8))) (hz : ∀ x ∈ zs, 0 ≤ x ∧ x ≤ 255) (hn : n ≤ 1000000000000) (ho : off ≤ 9223372036854775807) :
    Calls Try.prog 55 #[.slice A n c, .int .i64 off] w fun e w' => e = .returned (Tup3 (Nc.readU zs off)) ∧ w = w' := by
  have HZ := Lib.hid hr.ilen
  have HB := Lib.hid hz
  clear hz
  by_cases hneg : off < 0
  · have HU := Lib.hid (Nc.readU_neg (zs := zs) hneg)
    go_enter Try.func55, Try.ntmps55
    go_wp2
    go_ret3
    exact ⟨ret_tup3 HU.out, rfl⟩
  · obtain ⟨p, hp⟩ := Int.eq_ofNat_of_zero_le (show 0 ≤ off by omega)
    subst hp
    have HS := Lib.hid (Nc.rdInv_start zs p)
    go_enter Try.func55, Try.ntmps55
    go_wp2
    go_loop [7, 8] (fun s i => ∃ (k : Nat) (acc : Int), k ≤ 6 ∧ i = .int .i64 k ∧ s = .int .i64 acc ∧ (k = 0 ∨ p + k ≤ n) ∧ Nc.RdInv zs p k acc) (fun _ i => 6 - (intOf i).toNat)
    case atStart => exact ⟨0, 0, Nat.zero_le _, rfl, rfl, .inl rfl, HS.out⟩
    case round =>
      obtain ⟨k, acc, hk, rfl, rfl, hpk0, hI⟩ := hrel
      have hpk : p + k ≤ 9223372036854775807 := by omega
      have HI := Lib.hid hI
      clear hI hpk0
      by_cases hlt : k < 6
      · by_cases hin : p + k < n
        · obtain ⟨b, o, x, rfl, hbB, hx, hc⟩ := hr.int hin
          obtain ⟨x0, x1⟩ := HB.out x (List.mem_of_getElem? hx)
          have e1 := u8_and127 x x0 x1
          obtain ⟨V, hV⟩ : ∃ V, V = acc + x % 128 * 128 ^ k := ⟨_, rfl⟩
          have e2 := or_step k acc x hlt HI.out.2.1 HI.out.2.2
          rw [← hV] at e2
          by_cases hm : 128 ≤ x
          · have e3 : (bits BinOp.and IntKind.u8 x 128 != 0) = true := by rw [u8_and128 x x0 x1, if_pos hm]; rfl
            have HN := Lib.hid (Nc.rdInv_next HI.out hlt hx hm)
            rw [← hV] at HN
            clear hx hV
            go_wp2
            go_round
            case rel => exact ⟨k + 1, V, by omega, by go_num, rfl, .inr (by omega), HN.out⟩
            case measure => simp [intOf]; omega
          · have e3 : (bits BinOp.and IntKind.u8 x 128 != 0) = false := by rw [u8_and128 x x0 x1, if_neg hm]; rfl
            have bad := fun hb => Nc.rdInv_bad HI.out hlt hx hm hb
            have good := fun hb => Nc.rdInv_good HI.out hlt hx hm hb
            rw [← hV] at bad good
            have HBad := Lib.hid bad
            have HGood := Lib.hid good
            clear bad good hx hV
            by_cases hk0 : k = 0
            · by_cases hbig : 1000000000000 < V
              · have HU := Lib.hid (HBad.out (.inr hbig))
                have hkz : ¬ 0 < k := by omega
                clear hk0
                go_wp2
                go_ret3
                exact ⟨ret_tup3 HU.out, rfl⟩
              · have HU := Lib.hid (HGood.out (by omega))
                have hkz : ¬ 0 < k := by omega
                clear hk0
                go_wp2
                go_ret3
                exact ⟨ret_tup3 HU.out, rfl⟩
            · have hkp : 0 < k := by omega
              cases hx0 : (x == 0)
              · by_cases hbig : 1000000000000 < V
                · have HU := Lib.hid (HBad.out (.inr hbig))
                  go_wp2
                  go_ret3
                  exact ⟨ret_tup3 HU.out, rfl⟩
                · have HU := Lib.hid (HGood.out (by have := beq_eq_false_iff_ne.1 hx0; omega))
                  go_wp2
                  go_ret3
                  exact ⟨ret_tup3 HU.out, rfl⟩
              · have HU := Lib.hid (HBad.out (.inl ⟨hkp, beq_iff_eq.1 hx0⟩))
                go_wp2
                go_ret3
                exact ⟨ret_tup3 HU.out, rfl⟩
        · have HU := Lib.hid (Nc.rdInv_out HI.out (by rw [HZ.out]; omega))
          go_wp2
          go_ret3
          exact ⟨ret_tup3 HU.out, rfl⟩
      · obtain rfl : k = 6 := by omega
        have HU := Lib.hid (Nc.rdInv_six HI.out)
        go_wp2
        go_ret3
        exact ⟨ret_tup3 HU.out, rfl⟩

set_option maxHeartbeats 2000000 in
theorem spec_ReadUvarint (A : Option Addr) (n c : Nat) (off : Int) (zs : List Int) (w : World) (hr : Rd w w.heap.size A n (zs.map (.int .u8))) (hz : ∀ x ∈ zs, 0 ≤ x ∧ x ≤ 255) (hn : n ≤ 1000000000000) (ho : off ≤ 9223372036854775807) :
    Calls Try.prog 57 #[.slice A n c, .int .i64 off] w fun e w' => e = .returned (Tup3 (Nc.readU zs off)) ∧ w = w' := by
  have HZ := Lib.hid hr.ilen
  have HB := Lib.hid hz
  clear hz
  by_cases hneg : off < 0
  · have HU := Lib.hid (Nc.readU_neg (zs := zs) hneg)
    go_enter Try.func57, Try.ntmps57
    go_wp2
    go_loop [7, 8] (fun s i => i = .int .i64 0 ∧ s = .int .i64 0) (fun _ _ => 0)
    case atStart => exact ⟨rfl, rfl⟩
    case round =>
      obtain ⟨rfl, rfl⟩ := hrel
      go_wp2
      go_ret3
      exact ⟨ret_tup3 HU.out, rfl⟩
  · obtain ⟨p, hp⟩ := Int.eq_ofNat_of_zero_le (show 0 ≤ off by omega)
    subst hp
    have HS := Lib.hid (Nc.rdInv_start zs p)
    go_enter Try.func57, Try.ntmps57
    go_wp2
    go_loop [7, 8] (fun s i => ∃ (k : Nat) (acc : Int), k ≤ 6 ∧ i = .int .i64 k ∧ s = .int .i64 acc ∧ (k = 0 ∨ p + k ≤ n) ∧ Nc.RdInv zs p k acc) (fun _ i => 6 - (intOf i).toNat)
    case atStart => exact ⟨0, 0, Nat.zero_le _, rfl, rfl, .inl rfl, HS.out⟩
    case round =>
      obtain ⟨k, acc, hk, rfl, rfl, hpk0, hI⟩ := hrel
      have hpk : p + k ≤ 9223372036854775807 := by omega
      have HI := Lib.hid hI
      clear hI hpk0
      by_cases hlt : k < 6
      · by_cases hin : p + k < n
        · obtain ⟨b, o, x, rfl, hbB, hx, hc⟩ := hr.int hin
          obtain ⟨x0, x1⟩ := HB.out x (List.mem_of_getElem? hx)
          have e1 := i64_and127 x x0 (by omega)
          obtain ⟨V, hV⟩ : ∃ V, V = acc + x % 128 * 128 ^ k := ⟨_, rfl⟩
          have e2 := or_step k acc x hlt HI.out.2.1 HI.out.2.2
          rw [← hV] at e2
          by_cases hm : 128 ≤ x
          · have HN := Lib.hid (Nc.rdInv_next HI.out hlt hx hm)
            rw [← hV] at HN
            clear hx hV
            go_wp2
            go_round
            case rel => exact ⟨k + 1, V, by omega, by go_num, rfl, .inr (by omega), HN.out⟩
            case measure => simp [intOf]; omega
          · have bad := fun hb => Nc.rdInv_bad HI.out hlt hx hm hb
            have good := fun hb => Nc.rdInv_good HI.out hlt hx hm hb
            rw [← hV] at bad good
            have HBad := Lib.hid bad
            have HGood := Lib.hid good
            clear bad good hx hV
            cases hx0 : (x == 0)
            · by_cases hbig : 1000000000000 < V
              · have HU := Lib.hid (HBad.out (.inr hbig))
                go_wp2
                go_ret3
                exact ⟨ret_tup3 HU.out, rfl⟩
              · have HU := Lib.hid (HGood.out (by have := beq_eq_false_iff_ne.1 hx0; omega))
                go_wp2
                go_ret3
                exact ⟨ret_tup3 HU.out, rfl⟩
            · by_cases hkp : 0 < k
              · have HU := Lib.hid (HBad.out (.inl ⟨hkp, beq_iff_eq.1 hx0⟩))
                go_wp2
                go_ret3
                exact ⟨ret_tup3 HU.out, rfl⟩
              · by_cases hbig : 1000000000000 < V
                · have HU := Lib.hid (HBad.out (.inr hbig))
                  go_wp2
                  go_ret3
                  exact ⟨ret_tup3 HU.out, rfl⟩
                · have HU := Lib.hid (HGood.out (by omega))
                  go_wp2
                  go_ret3
                  exact ⟨ret_tup3 HU.out, rfl⟩
        · have HU := Lib.hid (Nc.rdInv_out HI.out (by rw [HZ.out]; omega))
          go_wp2
          go_ret3
          exact ⟨ret_tup3 HU.out, rfl⟩
      · obtain rfl : k = 6 := by omega
        have HU := Lib.hid (Nc.rdInv_six HI.out)
        go_wp2
        go_ret3
        exact ⟨ret_tup3 HU.out, rfl⟩

end Go.Proofs.Ytnobbojjhehdfaa
