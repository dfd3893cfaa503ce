/- Contracts of the equalities of the laws' own. Conditions: stated with each theorem. -/
import Derived.Test.YtnobbojjhehdfaaMat
namespace Go.Proofs.Ytnobbojjhehdfaa
open Go.RowKit
set_option maxRecDepth 100000

set_option maxHeartbeats 400000 in
theorem laws_sameInts (A : Option Addr) (n c : Nat) (A2 : Option Addr) (m c2 : Nat) (xs ys : List Int) (w : World) (hx : Rd w w.heap.size A n (xs.map (.int .i64))) (hy : Rd w w.heap.size A2 m (ys.map (.int .i64))) (hn : n ≤ 9223372036854775806) (hm : m ≤ 9223372036854775806) :
    Calls Try.prog 22 #[.slice A n c, .slice A2 m c2] w (Says (.bool (decide (xs = ys))) w) := by
  have HX := Lib.hid hx.ilen
  have HY := Lib.hid hy.ilen
  by_cases hne : n = m
  · subst hne
    have hq : ((n : Int) != n) = false := by simp
    go_enter Try.func22, Try.ntmps22
    go_wp2
    go_loopw [5] (fun i wr => ∃ k : Nat, k ≤ n ∧ i = .int .i64 k ∧ agree xs ys k ∧ Below w.heap.size w wr) (fun i _ => n - (intOf i).toNat)
    case atStart => exact ⟨0, Nat.zero_le _, rfl, rfl, Below.refl _ _⟩
    case round =>
      obtain ⟨k, hk, rfl, hag, hb⟩ := hrel
      by_cases hlt : k < n
      · obtain ⟨b, o, x, rfl, hbB, hx1, hc⟩ := (hx.below hb (Nat.le_refl _)).int hlt
        obtain ⟨b2, o2, y, rfl, hbB2, hy1, hc2⟩ := (hy.below hb (Nat.le_refl _)).int hlt
        have k0 : (0 : Int) ≤ k := by omega
        have k1 : (k : Int) < n := by omega
        cases he : (x != y)
        · have HN := Lib.hid (agree_next hag hx1 hy1 (by simpa using he))
          clear hag hx1 hy1
          go_wp2
          go_quiet (fail)
          go_wp2
          go_roundw
          case rel => exact ⟨k + 1, by omega, by go_num, HN.out, below_drewN hb _⟩
          case measure => simp [intOf]; omega
        · have HN := Lib.hid (agree_not hx1 hy1 (by simpa using he))
          clear hag hx1 hy1
          go_wp2
          go_quiet (fail)
          go_wp2
          go_ret
          exact ⟨ret_bool HN.out.symm, below_drewN hb _⟩
      · obtain rfl : k = n := by omega
        have HN := Lib.hid (agree_end hag HX.out HY.out)
        clear hag
        go_wp2
        go_ret
        exact ⟨ret_bool HN.out.symm, hb⟩
  · have hq : ((n : Int) != m) = true := by simp; omega
    have HN := Lib.hid (lens_not HX.out HY.out hne)
    go_enter Try.func22, Try.ntmps22
    go_wp2
    go_ret
    exact ⟨ret_bool HN.out.symm, Below.refl _ _⟩

set_option maxHeartbeats 400000 in
theorem laws_sameBytes (A : Option Addr) (n c : Nat) (A2 : Option Addr) (m c2 : Nat) (xs ys : List Int) (w : World) (hx : Rd w w.heap.size A n (xs.map (.int .u8))) (hy : Rd w w.heap.size A2 m (ys.map (.int .u8))) (hn : n ≤ 9223372036854775806) (hm : m ≤ 9223372036854775806) :
    Calls Try.prog 38 #[.slice A n c, .slice A2 m c2] w (Says (.bool (decide (xs = ys))) w) := by
  have HX := Lib.hid hx.ilen
  have HY := Lib.hid hy.ilen
  by_cases hne : n = m
  · subst hne
    have hq : ((n : Int) != n) = false := by simp
    go_enter Try.func38, Try.ntmps38
    go_wp2
    go_loopw [5] (fun i wr => ∃ k : Nat, k ≤ n ∧ i = .int .i64 k ∧ agree xs ys k ∧ Below w.heap.size w wr) (fun i _ => n - (intOf i).toNat)
    case atStart => exact ⟨0, Nat.zero_le _, rfl, rfl, Below.refl _ _⟩
    case round =>
      obtain ⟨k, hk, rfl, hag, hb⟩ := hrel
      by_cases hlt : k < n
      · obtain ⟨b, o, x, rfl, hbB, hx1, hc⟩ := (hx.below hb (Nat.le_refl _)).int hlt
        obtain ⟨b2, o2, y, rfl, hbB2, hy1, hc2⟩ := (hy.below hb (Nat.le_refl _)).int hlt
        have k0 : (0 : Int) ≤ k := by omega
        have k1 : (k : Int) < n := by omega
        cases he : (x != y)
        · have HN := Lib.hid (agree_next hag hx1 hy1 (by simpa using he))
          clear hag hx1 hy1
          go_wp2
          go_quiet (fail)
          go_wp2
          go_roundw
          case rel => exact ⟨k + 1, by omega, by go_num, HN.out, below_drewN hb _⟩
          case measure => simp [intOf]; omega
        · have HN := Lib.hid (agree_not hx1 hy1 (by simpa using he))
          clear hag hx1 hy1
          go_wp2
          go_quiet (fail)
          go_wp2
          go_ret
          exact ⟨ret_bool HN.out.symm, below_drewN hb _⟩
      · obtain rfl : k = n := by omega
        have HN := Lib.hid (agree_end hag HX.out HY.out)
        clear hag
        go_wp2
        go_ret
        exact ⟨ret_bool HN.out.symm, hb⟩
  · have hq : ((n : Int) != m) = true := by simp; omega
    have HN := Lib.hid (lens_not HX.out HY.out hne)
    go_enter Try.func38, Try.ntmps38
    go_wp2
    go_ret
    exact ⟨ret_bool HN.out.symm, Below.refl _ _⟩

set_option maxHeartbeats 400000 in
theorem laws_sameInts_q (A : Option Addr) (n c : Nat) (A2 : Option Addr) (m c2 : Nat) (xs ys : List Int) (w : World) (hx : Rd w w.heap.size A n (xs.map (.int .i64))) (hy : Rd w w.heap.size A2 m (ys.map (.int .i64))) (hn : n ≤ 9223372036854775806) (hm : m ≤ 9223372036854775806) :
    Calls Try.prog 22 #[.slice A n c, .slice A2 m c2] w fun e w' => e = .returned (.bool (decide (xs = ys))) ∧ Qt w w' := by
  have HX := Lib.hid hx.ilen
  have HY := Lib.hid hy.ilen
  by_cases hne : n = m
  · subst hne
    have hq : ((n : Int) != n) = false := by simp
    go_enter Try.func22, Try.ntmps22
    go_wp2
    go_loopw [5] (fun i wr => ∃ k : Nat, k ≤ n ∧ i = .int .i64 k ∧ agree xs ys k ∧ Qt w wr) (fun i _ => n - (intOf i).toNat)
    case atStart => exact ⟨0, Nat.zero_le _, rfl, rfl, Qt.refl _⟩
    case round =>
      obtain ⟨k, hk, rfl, hag, hqt⟩ := hrel
      by_cases hlt : k < n
      · obtain ⟨b, o, x, rfl, hbB, hx1, hc⟩ := (hx.keep fun p _ => hqt.cell p).int hlt
        obtain ⟨b2, o2, y, rfl, hbB2, hy1, hc2⟩ := (hy.keep fun p _ => hqt.cell p).int hlt
        have k0 : (0 : Int) ≤ k := by omega
        have k1 : (k : Int) < n := by omega
        cases he : (x != y)
        · have HN := Lib.hid (agree_next hag hx1 hy1 (by simpa using he))
          clear hag hx1 hy1
          go_wp2
          go_quiet (fail)
          go_wp2
          go_roundw
          case rel => exact ⟨k + 1, by omega, by go_num, HN.out, hqt.drewN _⟩
          case measure => simp [intOf]; omega
        · have HN := Lib.hid (agree_not hx1 hy1 (by simpa using he))
          clear hag hx1 hy1
          go_wp2
          go_quiet (fail)
          go_wp2
          go_ret
          exact ⟨ret_bool HN.out.symm, hqt.drewN _⟩
      · obtain rfl : k = n := by omega
        have HN := Lib.hid (agree_end hag HX.out HY.out)
        clear hag
        go_wp2
        go_ret
        exact ⟨ret_bool HN.out.symm, hqt⟩
  · have hq : ((n : Int) != m) = true := by simp; omega
    have HN := Lib.hid (lens_not HX.out HY.out hne)
    go_enter Try.func22, Try.ntmps22
    go_wp2
    go_ret
    exact ⟨ret_bool HN.out.symm, Qt.refl _⟩

set_option maxHeartbeats 400000 in
theorem laws_sameRows (A : Option Addr) (n c : Nat) (A2 : Option Addr) (m c2 : Nat) (xss yss : List (List Int)) (w : World) (hx : RdM w w.heap.size A n xss) (hy : RdM w w.heap.size A2 m yss) (hn : n ≤ 9223372036854775806) (hm : m ≤ 9223372036854775806)
    (hnx : ∀ xs ∈ xss, xs.length ≤ 9223372036854775806) (hny : ∀ ys ∈ yss, ys.length ≤ 9223372036854775806) :
    Calls Try.prog 19 #[.slice A n c, .slice A2 m c2] w fun e w' => e = .returned (.bool (decide (xss = yss))) ∧ Qt w w' := by
  have HX := Lib.hid hx.len
  have HY := Lib.hid hy.len
  have HNX := Lib.hid hnx
  have HNY := Lib.hid hny
  clear hnx hny
  by_cases hne : n = m
  · subst hne
    have hq : ((n : Int) != n) = false := by simp
    go_enter Try.func19, Try.ntmps19
    go_wp2
    go_loopw [5] (fun i wr => ∃ k : Nat, k ≤ n ∧ i = .int .i64 k ∧ agreeM xss yss k ∧ Qt w wr) (fun i _ => n - (intOf i).toNat)
    case atStart => exact ⟨0, Nat.zero_le _, rfl, rfl, Qt.refl _⟩
    case round =>
      obtain ⟨k, hk, rfl, hag, hqt⟩ := hrel
      by_cases hlt : k < n
      · obtain ⟨b, o, Aj, nj, cj, x, rfl, hbB, hx1, hc, _, _, hrx⟩ := (hx.keep fun p _ => hqt.cell p).at_ hlt
        obtain ⟨b2, o2, Bj, mj, dj, y, rfl, hbB2, hy1, hc2, _, _, hry⟩ := (hy.keep fun p _ => hqt.cell p).at_ hlt
        have bx : nj ≤ 9223372036854775806 := by rw [← hrx.ilen]; exact HNX.out x (List.mem_of_getElem? hx1)
        have by_ : mj ≤ 9223372036854775806 := by rw [← hry.ilen]; exact HNY.out y (List.mem_of_getElem? hy1)
        have k0 : (0 : Int) ≤ k := by omega
        have k1 : (k : Int) < n := by omega
        have hrx' : ∀ q, Rd (wr.drewN q) (wr.drewN q).heap.size Aj nj (x.map (.int .i64)) := fun q => hrx.more (Nat.le_of_eq hqt.size.symm)
        have hry' : ∀ q, Rd (wr.drewN q) (wr.drewN q).heap.size Bj mj (y.map (.int .i64)) := fun q => hry.more (Nat.le_of_eq hqt.size.symm)
        have HRX := Lib.hid hrx'
        have HRY := Lib.hid hry'
        clear hrx hry hrx' hry'
        cases he : decide (x = y)
        · have HN := Lib.hid (agreeM_not hx1 hy1 (by simpa using he))
          clear hag hx1 hy1
          go_wp2
          go_quiet ((go_at_call 22; exact quiet_dec (laws_sameInts_q _ _ _ _ _ _ x y _ (HRX.out _) (HRY.out _) bx by_) he))
          go_wp2
          go_ret
          exact ⟨ret_bool HN.out.symm, hqt.drewN _⟩
        · have HN := Lib.hid (agreeM_next hag hx1 hy1 (by simpa using he))
          clear hag hx1 hy1
          go_wp2
          go_quiet ((go_at_call 22; exact quiet_dec (laws_sameInts_q _ _ _ _ _ _ x y _ (HRX.out _) (HRY.out _) bx by_) he))
          go_wp2
          go_roundw
          case rel => exact ⟨k + 1, by omega, by go_num, HN.out, hqt.drewN _⟩
          case measure => simp [intOf]; omega
      · obtain rfl : k = n := by omega
        have HN := Lib.hid (agreeM_end hag HX.out HY.out)
        clear hag
        go_wp2
        go_ret
        exact ⟨ret_bool HN.out.symm, hqt⟩
  · have hq : ((n : Int) != m) = true := by simp; omega
    have HN := Lib.hid (lensM_not HX.out HY.out hne)
    go_enter Try.func19, Try.ntmps19
    go_wp2
    go_ret
    exact ⟨ret_bool HN.out.symm, Qt.refl _⟩

end Go.Proofs.Ytnobbojjhehdfaa
