/- Contracts of the dot products. Conditions: stated with each theorem. -/
import Derived.Test.YtnobbojjhehdfaaVec3
namespace Go.Proofs.Ytnobbojjhehdfaa
open Go.RowKit
set_option maxRecDepth 100000

def Nc.dotS (xs ys : List Int) : Int := (List.zipWith (fun x y => x * y) xs ys).sum
def Nc.pairB (xs ys : List Int) : Bool := Nc.vecB xs && Nc.vecB ys && decide (xs.length = ys.length)
def Nc.dotV (xs ys : List Int) : Int := if Nc.pairB xs ys then Nc.dotS xs ys % 1019 else 0
theorem Nc.vecB_el {zs : List Int} (h : Nc.vecB zs = true) : ∀ x ∈ zs, 0 ≤ x ∧ x ≤ 1018 := by
  intro x hx
  simp only [Nc.vecB, Bool.and_eq_true, List.all_eq_true] at h
  exact Nc.inB_true (h.1 x hx)
theorem Nc.vecB_len {zs : List Int} (h : Nc.vecB zs = true) : zs.length ≤ 40 := by
  simp only [Nc.vecB, Bool.and_eq_true, decide_eq_true_eq] at h; exact h.2
theorem Nc.vecB_mk {zs : List Int} (h1 : ∀ x ∈ zs, 0 ≤ x ∧ x ≤ 1018) (h2 : zs.length ≤ 40) : Nc.vecB zs = true := by
  simp only [Nc.vecB, Bool.and_eq_true, List.all_eq_true, decide_eq_true_eq]
  exact ⟨fun x hx => Nc.inB_of (h1 x hx).1 (h1 x hx).2, h2⟩
/-- The sum over the first k places. -/
def Nc.dotTo (xs ys : List Int) (k : Nat) : Int := ((List.zipWith (fun x y => x * y) xs ys).take k).sum
theorem Nc.dotTo_next {xs ys : List Int} {k : Nat} {x y : Int} (hx : xs[k]? = some x) (hy : ys[k]? = some y) : Nc.dotTo xs ys (k + 1) = Nc.dotTo xs ys k + x * y := by
  unfold Nc.dotTo
  have : (List.zipWith (fun x y => x * y) xs ys)[k]? = some (x * y) := by rw [List.getElem?_zipWith, hx, hy]
  rw [take_next this, List.sum_append]; simp
theorem Nc.dotTo_end {xs ys : List Int} {n : Nat} (hx : xs.length = n) : Nc.dotTo xs ys n = Nc.dotS xs ys := by
  unfold Nc.dotTo Nc.dotS
  rw [List.take_of_length_le (by simp; omega)]
theorem mul_el {x y : Int} (hx : 0 ≤ x ∧ x ≤ 1018) (hy : 0 ≤ y ∧ y ≤ 1018) : 0 ≤ x * y ∧ x * y ≤ 1036324 := by
  have h1 : 0 ≤ x * y := Int.mul_nonneg hx.1 hy.1
  have h2 : x * y ≤ 1018 * 1018 := Int.mul_le_mul hx.2 hy.2 hy.1 (by omega)
  omega

set_option maxHeartbeats 400000 in
theorem impl_dot (A : Option Addr) (n c : Nat) (A2 : Option Addr) (m c2 : Nat) (xs ys : List Int) (w : World) (hx : Rd w w.heap.size A n (xs.map (.int .i64))) (hy : Rd w w.heap.size A2 m (ys.map (.int .i64)))
    (hnm : n ≤ m) (vx : Nc.vecB xs = true) (vy : Nc.vecB ys = true) :
    Calls Try.prog 87 #[.slice A n c, .slice A2 m c2] w fun e w' => e = .returned (.int .i64 (Nc.dotS xs ys % 1019)) ∧ w = w' := by
  have HX := Lib.hid hx.ilen
  have hn40 : n ≤ 40 := by rw [← hx.ilen]; exact Nc.vecB_len vx
  have EX := Lib.hid (Nc.vecB_el vx)
  have EY := Lib.hid (Nc.vecB_el vy)
  clear vx vy
  go_enter Try.func87, Try.ntmps87
  go_wp2
  go_loop [5, 10] (fun s i => ∃ (k : Nat) (S : Int), k ≤ n ∧ i = .int .i64 k ∧ s = .int .i64 S ∧ 0 ≤ S ∧ S ≤ 1036324 * k ∧ Hid (S = Nc.dotTo xs ys k)) (fun _ i => n - (intOf i).toNat)
  case atStart => exact ⟨0, 0, Nat.zero_le _, rfl, rfl, by omega, by omega, by simp [Hid, Nc.dotTo]⟩
  case round =>
    obtain ⟨k, S, hk, rfl, rfl, hS0, hS1, hS⟩ := hrel
    by_cases hlt : k < n
    · obtain ⟨b, o, x, rfl, hbB, hx1, hc⟩ := hx.int hlt
      obtain ⟨b2, o2, y, rfl, hbB2, hy1, hc2⟩ := hy.int (show k < m by omega)
      obtain ⟨p0, p1⟩ := mul_el (EX.out x (List.mem_of_getElem? hx1)) (EY.out y (List.mem_of_getElem? hy1))
      have HN : Hid (S + x * y = Nc.dotTo xs ys (k + 1)) := Lib.hid (by rw [Nc.dotTo_next hx1 hy1, hS.out])
      have hkm : k < m := by omega
      clear hx1 hy1
      go_wp2
      go_round
      case rel => exact ⟨k + 1, S + x * y, by omega, by go_num, rfl, by omega, by omega, HN⟩
      case measure => simp [intOf]; omega
    · obtain rfl : k = n := by omega
      have HE : Hid (S = Nc.dotS xs ys) := Lib.hid (by rw [hS.out, Nc.dotTo_end HX.out])
      go_wp2
      go_ret
      exact ⟨ret_i64 (by rw [HE.out]), rfl⟩

theorem impl_DotProduct (A : Option Addr) (n c : Nat) (A2 : Option Addr) (m c2 : Nat) (xs ys : List Int) (w : World) (hx : Rd w w.heap.size A n (xs.map (.int .i64))) (hy : Rd w w.heap.size A2 m (ys.map (.int .i64))) (hn : n ≤ 9223372036854775806) (hm : m ≤ 9223372036854775806) :
    Calls Try.prog 71 #[.slice A n c, .slice A2 m c2] w fun e w' => e = .returned (.int .i64 (Nc.dotV xs ys)) ∧ w = w' := by
  have HX := Lib.hid hx.ilen
  have HY := Lib.hid hy.ilen
  cases vx : Nc.vecB xs
  · have HE := Lib.hid (show Nc.dotV xs ys = 0 by simp [Nc.dotV, Nc.pairB, vx])
    go_enter Try.func71, Try.ntmps71
    go_wp2_with fail
    refine (impl_IsValidVector _ _ _ xs _ hx hn).mono ?_
    rintro e w' ⟨rfl, rfl⟩
    rw [vx]
    go_wp2_with fail
    go_ret
    exact ⟨ret_i64 HE.out.symm, rfl⟩
  · cases vy : Nc.vecB ys
    · have HE := Lib.hid (show Nc.dotV xs ys = 0 by simp [Nc.dotV, Nc.pairB, vy])
      go_enter Try.func71, Try.ntmps71
      go_wp2_with fail
      refine (impl_IsValidVector _ _ _ xs _ hx hn).mono ?_
      rintro e w' ⟨rfl, rfl⟩
      rw [vx]
      go_wp2_with fail
      refine (impl_IsValidVector _ _ _ ys _ hy hm).mono ?_
      rintro e w' ⟨rfl, rfl⟩
      rw [vy]
      go_wp2_with fail
      go_ret
      exact ⟨ret_i64 HE.out.symm, rfl⟩
    · by_cases hnm : n = m
      · have HE := Lib.hid (show Nc.dotV xs ys = Nc.dotS xs ys % 1019 by
          unfold Nc.dotV Nc.pairB; rw [vx, vy, HX.out, HY.out, hnm]; simp)
        subst hnm
        have hq : ((n : Int) != n) = false := by simp
        have VX := Lib.hid vx
        have VY := Lib.hid vy
        clear vx vy
        go_enter Try.func71, Try.ntmps71
        go_wp2_with fail
        refine (impl_IsValidVector _ _ _ xs _ hx hn).mono ?_
        rintro e w' ⟨rfl, rfl⟩
        rw [VX.out]
        go_wp2_with fail
        refine (impl_IsValidVector _ _ _ ys _ hy hm).mono ?_
        rintro e w' ⟨rfl, rfl⟩
        rw [VY.out]
        go_wp2_with fail
        refine (impl_dot _ _ _ _ _ _ xs ys _ hx hy (Nat.le_refl _) VX.out VY.out).mono ?_
        rintro e w' ⟨rfl, rfl⟩
        go_wp2_with fail
        go_ret
        exact ⟨ret_i64 HE.out.symm, rfl⟩
      · have HE := Lib.hid (show Nc.dotV xs ys = 0 by
          unfold Nc.dotV Nc.pairB; rw [vx, vy, HX.out, HY.out]; simp [hnm])
        have hq : ((n : Int) != m) = true := by simp; omega
        go_enter Try.func71, Try.ntmps71
        go_wp2_with fail
        refine (impl_IsValidVector _ _ _ xs _ hx hn).mono ?_
        rintro e w' ⟨rfl, rfl⟩
        rw [vx]
        go_wp2_with fail
        refine (impl_IsValidVector _ _ _ ys _ hy hm).mono ?_
        rintro e w' ⟨rfl, rfl⟩
        rw [vy]
        go_wp2_with fail
        go_ret
        exact ⟨ret_i64 HE.out.symm, rfl⟩

theorem spec_l5Pair (A : Option Addr) (n c : Nat) (A2 : Option Addr) (m c2 : Nat) (xs ys : List Int) (w : World) (hx : Rd w w.heap.size A n (xs.map (.int .i64))) (hy : Rd w w.heap.size A2 m (ys.map (.int .i64))) (hn : n ≤ 9223372036854775806) (hm : m ≤ 9223372036854775806) :
    Calls Try.prog 124 #[.slice A n c, .slice A2 m c2] w fun e w' => e = .returned (.bool (Nc.pairB xs ys)) ∧ w = w' := by
  have HX := Lib.hid hx.ilen
  have HY := Lib.hid hy.ilen
  cases vx : Nc.vecB xs
  · have HE := Lib.hid (show Nc.pairB xs ys = false by simp [Nc.pairB, vx])
    go_enter Try.func124, Try.ntmps124
    go_wp2_with fail
    refine (spec_IsValidVector _ _ _ xs _ hx hn).mono ?_
    rintro e w' ⟨rfl, rfl⟩
    rw [vx]
    go_wp2_with fail
    go_ret
    exact ⟨ret_bool HE.out.symm, rfl⟩
  · cases vy : Nc.vecB ys
    · have HE := Lib.hid (show Nc.pairB xs ys = false by simp [Nc.pairB, vy])
      go_enter Try.func124, Try.ntmps124
      go_wp2_with fail
      refine (spec_IsValidVector _ _ _ xs _ hx hn).mono ?_
      rintro e w' ⟨rfl, rfl⟩
      rw [vx]
      go_wp2_with fail
      refine (spec_IsValidVector _ _ _ ys _ hy hm).mono ?_
      rintro e w' ⟨rfl, rfl⟩
      rw [vy]
      go_wp2_with fail
      go_ret
      exact ⟨ret_bool HE.out.symm, rfl⟩
    · have HE := Lib.hid (show Nc.pairB xs ys = ((n : Int) == (m : Int)) by
          unfold Nc.pairB; rw [vx, vy, HX.out, HY.out]
          by_cases h : n = m
          · subst h; simp
          · have : ¬ ((n : Int) = m) := by omega
            simp [h, this])
      go_enter Try.func124, Try.ntmps124
      go_wp2_with fail
      refine (spec_IsValidVector _ _ _ xs _ hx hn).mono ?_
      rintro e w' ⟨rfl, rfl⟩
      rw [vx]
      go_wp2_with fail
      refine (spec_IsValidVector _ _ _ ys _ hy hm).mono ?_
      rintro e w' ⟨rfl, rfl⟩
      rw [vy]
      go_wp2_with fail
      go_ret
      exact ⟨ret_bool (by rw [HE.out]), rfl⟩

end Go.Proofs.Ytnobbojjhehdfaa
