/- Contracts of the dot products. Conditions: stated with each theorem. -/
import Derived.Test.YtlcepceomlfnbaaVec3
namespace Go.Proofs.Ytlcepceomlfnbaa
open Go.RowKit

def Nc.dotS (xs ys : List Int) : Int := (List.zipWith (fun x y => x * y) xs ys).sum
def Nc.pairB (xs ys : List Int) : Bool := Nc.vecB xs && Nc.vecB ys && decide (xs.length = ys.length)
def Nc.dotV (xs ys : List Int) : Int := if Nc.pairB xs ys then Nc.dotS xs ys % 1019 else 0
theorem Nc.vecB_el {zs : List Int} (h : Nc.vecB zs = true) : ∀ x ∈ zs, 0 ≤ x ∧ x ≤ 1018 := by
  intro x hx
  simp only [Nc.vecB, Bool.and_eq_true, List.all_eq_true] at h
  exact Nc.inB_true (h.1 x hx)
theorem Nc.vecB_len {zs : List Int} (h : Nc.vecB zs = true) : zs.length ≤ 40 := by
  simp only [Nc.vecB, Bool.and_eq_true, decide_eq_true_eq] at h; exact h.2
theorem Nc.vecB_mk {zs : List Int} (h1 : ∀ x ∈ zs, 0 ≤ x ∧ x ≤ 1018) (h2 : zs.length ≤ 40) : Nc.vecB zs = true := by
  simp only [Nc.vecB, Bool.and_eq_true, List.all_eq_true, decide_eq_true_eq]
  exact ⟨fun x hx => Nc.inB_of (h1 x hx).1 (h1 x hx).2, h2⟩
/-- The sum over the first k places. -/
def Nc.dotTo (xs ys : List Int) (k : Nat) : Int := ((List.zipWith (fun x y => x * y) xs ys).take k).sum
theorem Nc.dotTo_next {xs ys : List Int} {k : Nat} {x y : Int} (hx : xs[k]? = some x) (hy : ys[k]? = some y) : Nc.dotTo xs ys (k + 1) = Nc.dotTo xs ys k + x * y := by
  unfold Nc.dotTo
  have : (List.zipWith (fun x y => x * y) xs ys)[k]? = some (x * y) := by rw [List.getElem?_zipWith, hx, hy]
  rw [take_next this, List.sum_append]; simp
theorem Nc.dotTo_end {xs ys : List Int} {n : Nat} (hx : xs.length = n) : Nc.dotTo xs ys n = Nc.dotS xs ys := by
  unfold Nc.dotTo Nc.dotS
  rw [List.take_of_length_le (by simp; omega)]
theorem mul_el {x y : Int} (hx : 0 ≤ x ∧ x ≤ 1018) (hy : 0 ≤ y ∧ y ≤ 1018) : 0 ≤ x * y ∧ x * y ≤ 1036324 := by
  have h1 : 0 ≤ x * y := Int.mul_nonneg hx.1 hy.1
  have h2 : x * y ≤ 1018 * 1018 := Int.mul_le_mul hx.2 hy.2 hy.1 (by omega)
  omega

set_option maxHeartbeats 400000 in
theorem impl_dot (A : Option Addr) (n c : Nat) (A2 : Option Addr) (m c2 : Nat) (xs ys : List Int) (w : World) (hx : Rd w w.heap.size A n (xs.map (.int .i64))) (hy : Rd w w.heap.size A2 m (ys.map (.int .i64)))
    (hnm : n ≤ m) (vx : Nc.vecB xs = true) (vy : Nc.vecB ys = true) :
    Calls Try.prog 66 #[.slice A n c, .slice A2 m c2] w fun e w' => e = .returned (.int .i64 (Nc.dotS xs ys % 1019)) ∧ w = w' := by
  have HX := Lib.hid hx.ilen
  have hn40 : n ≤ 40 := by rw [← hx.ilen]; exact Nc.vecB_len vx
  have EX := Lib.hid (Nc.vecB_el vx)
  have EY := Lib.hid (Nc.vecB_el vy)
  clear vx vy
  go_enter Try.func66, Try.ntmps66
  go_wp2
  go_loop [5, 10] (fun s i => ∃ (k : Nat) (S : Int), k ≤ n ∧ i = .int .i64 k ∧ s = .int .i64 S ∧ 0 ≤ S ∧ S ≤ 1036324 * k ∧ Hid (S = Nc.dotTo xs ys k)) (fun _ i => n - (intOf i).toNat)
  case atStart => exact ⟨0, 0, Nat.zero_le _, rfl, rfl, by omega, by omega, by simp [Hid, Nc.dotTo]⟩
  case round =>
    obtain ⟨k, S, hk, rfl, rfl, hS0, hS1, hS⟩ := hrel
    by_cases hlt : k < n
    · obtain ⟨b, o, x, rfl, hbB, hx1, hc⟩ := hx.int hlt
      obtain ⟨b2, o2, y, rfl, hbB2, hy1, hc2⟩ := hy.int (show k < m by omega)
      obtain ⟨p0, p1⟩ := mul_el (EX.out x (List.mem_of_getElem? hx1)) (EY.out y (List.mem_of_getElem? hy1))
      have HN : Hid (S + x * y = Nc.dotTo xs ys (k + 1)) := Lib.hid (by rw [Nc.dotTo_next hx1 hy1, hS.out])
      have hkm : k < m := by omega
      clear hx1 hy1
      go_wp2
      go_round
      case rel => exact ⟨k + 1, S + x * y, by omega, by go_num, rfl, by omega, by omega, HN⟩
      case measure => simp [intOf]; omega
    · obtain rfl : k = n := by omega
      have HE : Hid (S = Nc.dotS xs ys) := Lib.hid (by rw [hS.out, Nc.dotTo_end HX.out])
      go_wp2
      go_ret
      exact ⟨ret_i64 (by rw [HE.out]), rfl⟩

theorem spec_l5Pair (A : Option Addr) (n c : Nat) (A2 : Option Addr) (m c2 : Nat) (xs ys : List Int) (w : World) (hx : Rd w w.heap.size A n (xs.map (.int .i64))) (hy : Rd w w.heap.size A2 m (ys.map (.int .i64))) (hn : n ≤ 9223372036854775806) (hm : m ≤ 9223372036854775806) :
    Calls Try.prog 50 #[.slice A n c, .slice A2 m c2] w fun e w' => e = .returned (.bool (Nc.pairB xs ys)) ∧ w = w' := by
  have HX := Lib.hid hx.ilen
  have HY := Lib.hid hy.ilen
  cases vx : Nc.vecB xs
  · have HE := Lib.hid (show Nc.pairB xs ys = false by simp [Nc.pairB, vx])
    go_enter Try.func50, Try.ntmps50
    go_wp2_with fail
    refine (spec_IsValidVector _ _ _ xs _ hx hn).mono ?_
    rintro e w' ⟨rfl, rfl⟩
    rw [vx]
    go_wp2_with fail
    go_ret
    exact ⟨ret_bool HE.out.symm, rfl⟩
  · cases vy : Nc.vecB ys
    · have HE := Lib.hid (show Nc.pairB xs ys = false by simp [Nc.pairB, vy])
      go_enter Try.func50, Try.ntmps50
      go_wp2_with fail
      refine (spec_IsValidVector _ _ _ xs _ hx hn).mono ?_
      rintro e w' ⟨rfl, rfl⟩
      rw [vx]
      go_wp2_with fail
      refine (spec_IsValidVector _ _ _ ys _ hy hm).mono ?_
      rintro e w' ⟨rfl, rfl⟩
      rw [vy]
      go_wp2_with fail
      go_ret
      exact ⟨ret_bool HE.out.symm, rfl⟩
    · have HE := Lib.hid (show Nc.pairB xs ys = ((n : Int) == (m : Int)) by
          unfold Nc.pairB; rw [vx, vy, HX.out, HY.out]
          by_cases h : n = m
          · subst h; simp
          · have : ¬ ((n : Int) = m) := by omega
            simp [h, this])
      go_enter Try.func50, Try.ntmps50
      go_wp2_with fail
      refine (spec_IsValidVector _ _ _ xs _ hx hn).mono ?_
      rintro e w' ⟨rfl, rfl⟩
      rw [vx]
      go_wp2_with fail
      refine (spec_IsValidVector _ _ _ ys _ hy hm).mono ?_
      rintro e w' ⟨rfl, rfl⟩
      rw [vy]
      go_wp2_with fail
      go_ret
      exact ⟨ret_bool (by rw [HE.out]), rfl⟩

set_option maxHeartbeats 1000000 in
theorem spec_DotProduct (A : Option Addr) (n c : Nat) (A2 : Option Addr) (m c2 : Nat) (xs ys : List Int) (w : World) (hx : Rd w w.heap.size A n (xs.map (.int .i64))) (hy : Rd w w.heap.size A2 m (ys.map (.int .i64))) (hn : n ≤ 9223372036854775806) (hm : m ≤ 9223372036854775806) :
    Calls Try.prog 65 #[.slice A n c, .slice A2 m c2] w (Says (.int .i64 (Nc.dotV xs ys)) w) := by
  have HX := Lib.hid hx.ilen
  have HY := Lib.hid hy.ilen
  cases hp : Nc.pairB xs ys
  · have HE := Lib.hid (show Nc.dotV xs ys = 0 by simp [Nc.dotV, hp])
    go_enter Try.func65, Try.ntmps65
    go_wp2_with fail
    refine (spec_l5Pair _ _ _ _ _ _ xs ys _ hx hy hn hm).mono ?_
    rintro e w' ⟨rfl, rfl⟩
    rw [hp]
    go_wp2_with fail
    go_ret
    exact ⟨ret_i64 HE.out.symm, Below.refl _ _⟩
  · have HE := Lib.hid (show Nc.dotV xs ys = Nc.dotS xs ys % 1019 by simp [Nc.dotV, hp])
    have hp' := hp
    simp only [Nc.pairB, Bool.and_eq_true, decide_eq_true_eq] at hp'
    obtain ⟨⟨vx, vy⟩, hl⟩ := hp'
    have hnm : n = m := by rw [← HX.out, ← HY.out, hl]
    have hn40 : n ≤ 40 := by rw [← HX.out]; exact Nc.vecB_len vx
    have EX := Lib.hid (Nc.vecB_el vx)
    have EY := Lib.hid (Nc.vecB_el vy)
    have HP := Lib.hid hp
    subst hnm
    clear vx vy hl hp
    go_enter Try.func65, Try.ntmps65
    go_wp2_with fail
    refine (spec_l5Pair _ _ _ _ _ _ xs ys _ hx hy hn hm).mono ?_
    rintro e w' ⟨rfl, rfl⟩
    rw [HP.out]
    go_wp2_with fail
    go_loopw [5, 6] (fun s i wr => ∃ (k : Nat) (S : Int), k ≤ n ∧ i = .int .i64 k ∧ s = .int .i64 S ∧ 0 ≤ S ∧ S ≤ 1018 ∧ Hid (S = Nc.dotTo xs ys k % 1019) ∧ Below w.heap.size w wr) (fun _ i _ => n - (intOf i).toNat)
    case atStart => exact ⟨0, 0, Nat.zero_le _, rfl, rfl, by omega, by omega, by simp [Hid, Nc.dotTo], Below.refl _ _⟩
    case round =>
      obtain ⟨k, S, hk, rfl, rfl, hS0, hS1, hS, hb⟩ := hrel
      by_cases hlt : k < n
      · obtain ⟨b, o, x, rfl, hbB, hx1, hc⟩ := (hx.below hb (Nat.le_refl _)).int hlt
        obtain ⟨b2, o2, y, rfl, hbB2, hy1, hc2⟩ := (hy.below hb (Nat.le_refl _)).int hlt
        obtain ⟨p0, p1⟩ := mul_el (EX.out x (List.mem_of_getElem? hx1)) (EY.out y (List.mem_of_getElem? hy1))
        have HN : Hid ((S + x * y) % 1019 = Nc.dotTo xs ys (k + 1) % 1019) := Lib.hid (by rw [Nc.dotTo_next hx1 hy1, hS.out]; omega)
        have k0 : (0 : Int) ≤ k := by omega
        have k1 : (k : Int) < n := by omega
        clear hx1 hy1
        have hw1 : IntKind.i64.wrap (x * y) = x * y := IntWalk.i64_in _ (by omega)
        have hw2 : IntKind.i64.wrap (S + x * y) = S + x * y := IntWalk.i64_in _ (by omega)
        have hw3 : (S + x * y).tmod 1019 = (S + x * y) % 1019 := Int.tmod_eq_emod_of_nonneg (by omega)
        have HB : Hid (0 ≤ (S + x * y) % 1019 ∧ (S + x * y) % 1019 ≤ 1018) := Lib.hid (by omega)
        go_wp2
        go_quiet (fail)
        clear hw1 hw2 hw3
        go_wp2
        go_roundw
        case rel => exact ⟨k + 1, (S + x * y) % 1019, by omega, by go_num, rfl, HB.out.1, HB.out.2, HN, below_drewN hb _⟩
        case measure => simp [intOf]; omega
      · obtain rfl : k = n := by omega
        have HE2 : Hid (S = Nc.dotS xs ys % 1019) := Lib.hid (by rw [hS.out, Nc.dotTo_end HX.out])
        go_wp2
        go_ret
        exact ⟨ret_i64 (by rw [HE.out, HE2.out]), hb⟩

end Go.Proofs.Ytlcepceomlfnbaa
