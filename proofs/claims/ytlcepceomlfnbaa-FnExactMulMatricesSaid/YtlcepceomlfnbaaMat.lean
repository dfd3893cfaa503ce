/- Contracts of the small functions over slices of slices. Conditions: stated with each theorem. -/
import Derived.Test.YtlcepceomlfnbaaVec3
import Derived.Test.YtlcepceomlfnbaaMatMem
namespace Go.Proofs.Ytlcepceomlfnbaa
open Go.RowKit

/-- The world has only drawn. -/
def Qt (w w' : World) : Prop := ∃ q, w' = w.drewN q
theorem Qt.refl (w : World) : Qt w w := ⟨0, rfl⟩
theorem Qt.drewN {w w' : World} (h : Qt w w') (n : Nat) : Qt w (w'.drewN n) := by
  obtain ⟨q, rfl⟩ := h; exact ⟨q + n, World.drewN_drewN _ _ _⟩
theorem Qt.cell {w w' : World} (h : Qt w w') (p : Addr) : w'.cell? p = w.cell? p := by obtain ⟨q, rfl⟩ := h; rfl
theorem Qt.size {w w' : World} (h : Qt w w') : w'.heap.size = w.heap.size := by obtain ⟨q, rfl⟩ := h; rfl
theorem Qt.below {w w' : World} (h : Qt w w') : Below w.heap.size w w' := by obtain ⟨q, rfl⟩ := h; exact below_drewN (Below.refl _ _) q
theorem quiet_dec {P : Program} {f : FuncId} {args : Array Value} {w : World} {n : Nat} {b d : Bool}
    (h : Calls P f args (w.drewN n) fun e w' => e = .returned (.bool d) ∧ Qt (w.drewN n) w') (hd : d = b) : Calls P f args (w.drewN n) fun e w'' => e = .returned (.bool b) ∧ ∃ m, w'' = w.drewN m :=
  h.mono fun _ _ ⟨he, m, hm⟩ => ⟨by rw [he, hd], n + m, by rw [hm, World.drewN_drewN]⟩
def agreeM (xs ys : List (List Int)) (k : Nat) : Prop := xs.take k = ys.take k
theorem agreeM_next {xs ys : List (List Int)} {k : Nat} {x y : List Int} (h : agreeM xs ys k) (hx : xs[k]? = some x) (hy : ys[k]? = some y) (e : x = y) : agreeM xs ys (k + 1) := by
  unfold agreeM at h ⊢; rw [take_next hx, take_next hy, h, e]
theorem agreeM_not {xs ys : List (List Int)} {k : Nat} {x y : List Int} (hx : xs[k]? = some x) (hy : ys[k]? = some y) (e : x ≠ y) : decide (xs = ys) = false := by
  simp only [decide_eq_false_iff_not]; rintro rfl; rw [hx] at hy; exact e (by injection hy)
theorem agreeM_end {xs ys : List (List Int)} {n : Nat} (h : agreeM xs ys n) (hx : xs.length = n) (hy : ys.length = n) : decide (xs = ys) = true := by
  unfold agreeM at h; rw [List.take_of_length_le (by omega), List.take_of_length_le (by omega)] at h; simp [h]
theorem lensM_not {xs ys : List (List Int)} {n m : Nat} (hx : xs.length = n) (hy : ys.length = m) (h : n ≠ m) : decide (xs = ys) = false := by
  simp only [decide_eq_false_iff_not]; rintro rfl; omega

set_option maxHeartbeats 400000 in
theorem laws_eqIntS_q (A : Option Addr) (n c : Nat) (A2 : Option Addr) (m c2 : Nat) (xs ys : List Int) (w : World) (hx : Rd w w.heap.size A n (xs.map (.int .i64))) (hy : Rd w w.heap.size A2 m (ys.map (.int .i64))) (hn : n ≤ 9223372036854775806) (hm : m ≤ 9223372036854775806) :
    Calls Try.prog 17 #[.slice A n c, .slice A2 m c2] w fun e w' => e = .returned (.bool (decide (xs = ys))) ∧ Qt w w' := by
  have HX := Lib.hid hx.ilen
  have HY := Lib.hid hy.ilen
  by_cases hne : n = m
  · subst hne
    have hq : ((n : Int) != n) = false := by simp
    go_enter Try.func17, Try.ntmps17
    go_wp2
    go_loopw [5] (fun i wr => ∃ k : Nat, k ≤ n ∧ i = .int .i64 k ∧ agree xs ys k ∧ Qt w wr) (fun i _ => n - (intOf i).toNat)
    case atStart => exact ⟨0, Nat.zero_le _, rfl, rfl, Qt.refl _⟩
    case round =>
      obtain ⟨k, hk, rfl, hag, hqt⟩ := hrel
      by_cases hlt : k < n
      · obtain ⟨b, o, x, rfl, hbB, hx1, hc⟩ := (hx.keep fun p _ => hqt.cell p).int hlt
        obtain ⟨b2, o2, y, rfl, hbB2, hy1, hc2⟩ := (hy.keep fun p _ => hqt.cell p).int hlt
        have k0 : (0 : Int) ≤ k := by omega
        have k1 : (k : Int) < n := by omega
        cases he : (x != y)
        · have HN := Lib.hid (agree_next hag hx1 hy1 (by simpa using he))
          clear hag hx1 hy1
          go_wp2
          go_quiet (fail)
          go_wp2
          go_roundw
          case rel => exact ⟨k + 1, by omega, by go_num, HN.out, hqt.drewN _⟩
          case measure => simp [intOf]; omega
        · have HN := Lib.hid (agree_not hx1 hy1 (by simpa using he))
          clear hag hx1 hy1
          go_wp2
          go_quiet (fail)
          go_wp2
          go_ret
          exact ⟨ret_bool HN.out.symm, hqt.drewN _⟩
      · obtain rfl : k = n := by omega
        have HN := Lib.hid (agree_end hag HX.out HY.out)
        clear hag
        go_wp2
        go_ret
        exact ⟨ret_bool HN.out.symm, hqt⟩
  · have hq : ((n : Int) != m) = true := by simp; omega
    have HN := Lib.hid (lens_not HX.out HY.out hne)
    go_enter Try.func17, Try.ntmps17
    go_wp2
    go_ret
    exact ⟨ret_bool HN.out.symm, Qt.refl _⟩

set_option maxHeartbeats 400000 in
theorem laws_eqIntSS (A : Option Addr) (n c : Nat) (A2 : Option Addr) (m c2 : Nat) (xss yss : List (List Int)) (w : World) (hx : RdM w w.heap.size A n xss) (hy : RdM w w.heap.size A2 m yss) (hn : n ≤ 9223372036854775806) (hm : m ≤ 9223372036854775806)
    (hnx : ∀ xs ∈ xss, xs.length ≤ 9223372036854775806) (hny : ∀ ys ∈ yss, ys.length ≤ 9223372036854775806) :
    Calls Try.prog 24 #[.slice A n c, .slice A2 m c2] w fun e w' => e = .returned (.bool (decide (xss = yss))) ∧ Qt w w' := by
  have HX := Lib.hid hx.len
  have HY := Lib.hid hy.len
  have HNX := Lib.hid hnx
  have HNY := Lib.hid hny
  clear hnx hny
  by_cases hne : n = m
  · subst hne
    have hq : ((n : Int) != n) = false := by simp
    go_enter Try.func24, Try.ntmps24
    go_wp2
    go_loopw [5] (fun i wr => ∃ k : Nat, k ≤ n ∧ i = .int .i64 k ∧ agreeM xss yss k ∧ Qt w wr) (fun i _ => n - (intOf i).toNat)
    case atStart => exact ⟨0, Nat.zero_le _, rfl, rfl, Qt.refl _⟩
    case round =>
      obtain ⟨k, hk, rfl, hag, hqt⟩ := hrel
      by_cases hlt : k < n
      · obtain ⟨b, o, Aj, nj, cj, x, rfl, hbB, hx1, hc, _, _, hrx⟩ := (hx.keep fun p _ => hqt.cell p).at_ hlt
        obtain ⟨b2, o2, Bj, mj, dj, y, rfl, hbB2, hy1, hc2, _, _, hry⟩ := (hy.keep fun p _ => hqt.cell p).at_ hlt
        have bx : nj ≤ 9223372036854775806 := by rw [← hrx.ilen]; exact HNX.out x (List.mem_of_getElem? hx1)
        have by_ : mj ≤ 9223372036854775806 := by rw [← hry.ilen]; exact HNY.out y (List.mem_of_getElem? hy1)
        have k0 : (0 : Int) ≤ k := by omega
        have k1 : (k : Int) < n := by omega
        have hrx' : ∀ q, Rd (wr.drewN q) (wr.drewN q).heap.size Aj nj (x.map (.int .i64)) := fun q => hrx.more (Nat.le_of_eq hqt.size.symm)
        have hry' : ∀ q, Rd (wr.drewN q) (wr.drewN q).heap.size Bj mj (y.map (.int .i64)) := fun q => hry.more (Nat.le_of_eq hqt.size.symm)
        have HRX := Lib.hid hrx'
        have HRY := Lib.hid hry'
        clear hrx hry hrx' hry'
        cases he : decide (x = y)
        · have HN := Lib.hid (agreeM_not hx1 hy1 (by simpa using he))
          clear hag hx1 hy1
          go_wp2
          go_quiet ((go_at_call 17; exact quiet_dec (laws_eqIntS_q _ _ _ _ _ _ x y _ (HRX.out _) (HRY.out _) bx by_) he))
          go_wp2
          go_ret
          exact ⟨ret_bool HN.out.symm, hqt.drewN _⟩
        · have HN := Lib.hid (agreeM_next hag hx1 hy1 (by simpa using he))
          clear hag hx1 hy1
          go_wp2
          go_quiet ((go_at_call 17; exact quiet_dec (laws_eqIntS_q _ _ _ _ _ _ x y _ (HRX.out _) (HRY.out _) bx by_) he))
          go_wp2
          go_roundw
          case rel => exact ⟨k + 1, by omega, by go_num, HN.out, hqt.drewN _⟩
          case measure => simp [intOf]; omega
      · obtain rfl : k = n := by omega
        have HN := Lib.hid (agreeM_end hag HX.out HY.out)
        clear hag
        go_wp2
        go_ret
        exact ⟨ret_bool HN.out.symm, hqt⟩
  · have hq : ((n : Int) != m) = true := by simp; omega
    have HN := Lib.hid (lensM_not HX.out HY.out hne)
    go_enter Try.func24, Try.ntmps24
    go_wp2
    go_ret
    exact ⟨ret_bool HN.out.symm, Qt.refl _⟩

end Go.Proofs.Ytlcepceomlfnbaa
