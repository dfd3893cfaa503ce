/- Contracts of the small functions over slices of integers and of bytes. Conditions: stated with each theorem. -/
import Derived.Test.YtlcepceomlfnbaaMem
import Derived.Test.YtlcepceomlfnbaaInt
import Derived.Deep.QuietTactic
import Derived.BigQuiet
import Derived.Laws.Closers25b
namespace Go.Proofs.Ytlcepceomlfnbaa
open Go.RowKit

/-- The call hands back a slice in new memory that reads as xs; nothing that was there has turned. -/
def Fresh (e : TypeId) (w : World) (xs : List Value) (r : Ending) (w' : World) : Prop :=
  ∃ A n c, r = .returned (.slice A n c) ∧ Own w' w.heap.size w'.heap.size e A n c xs ∧ Below w.heap.size w w'
/-- The call hands back r; nothing that was there has turned. -/
def Says (v : Value) (w : World) (r : Ending) (w' : World) : Prop := r = .returned v ∧ Below w.heap.size w w'
/-- The call has written one block alone. -/
def Wrote (v : Value) (w : World) (A : Option Addr) (r : Ending) (w' : World) : Prop := r = .returned v ∧ w.grownBy w' (A.map (·.block))

theorem below_drewN {B : Nat} {a w : World} (h : Below B a w) (n : Nat) : Below B a (w.drewN n) := ⟨h.os, h.tape, h.output, h.size, h.block⟩

/-- k elements copied, the rest still zero. -/
def half (kd : IntKind) (zs : List Int) (n k : Nat) : List Value := (zs.take k).map (.int kd) ++ List.replicate (n - k) (.int kd 0)
theorem half_zero (kd : IntKind) (zs : List Int) (n : Nat) : half kd zs n 0 = List.replicate n (.int kd 0) := by simp [half]
theorem half_full (kd : IntKind) (zs : List Int) (n : Nat) (h : zs.length = n) : half kd zs n n = zs.map (.int kd) := by simp [half, ← h]
theorem half_next {kd : IntKind} {zs : List Int} {n k : Nat} {x : Int} (h : zs.length = n) (hx : zs[k]? = some x) : (half kd zs n k).set k (.int kd x) = half kd zs n (k + 1) := by
  have hk : k < n := by rw [← h]; exact (List.getElem?_eq_some_iff.1 hx).1
  have hl : ((zs.take k).map (Value.int kd)).length = k := by simp; omega
  unfold half
  rw [take_next hx, List.map_append, List.set_append, if_neg (by rw [hl]; omega), hl, Nat.sub_self]
  rw [show n - k = (n - (k + 1)) + 1 by omega, List.replicate_succ, List.set_cons_zero]
  simp
theorem half_at {kd : IntKind} {zs : List Int} {n k : Nat} (h : zs.length = n) (hk : k < n) : (half kd zs n k)[k]? = some (.int kd 0) := by
  have hl : ((zs.take k).map (Value.int kd)).length = k := by simp; omega
  unfold half
  rw [List.getElem?_append_right (by omega), hl, Nat.sub_self, List.getElem?_replicate, if_pos (by omega)]

/-- The first k elements agree. -/
def agree (xs ys : List Int) (k : Nat) : Prop := xs.take k = ys.take k
theorem agree_next {xs ys : List Int} {k : Nat} {x y : Int} (h : agree xs ys k) (hx : xs[k]? = some x) (hy : ys[k]? = some y) (e : x = y) : agree xs ys (k + 1) := by
  unfold agree at h ⊢; rw [take_next hx, take_next hy, h, e]
theorem agree_not {xs ys : List Int} {k : Nat} {x y : Int} (hx : xs[k]? = some x) (hy : ys[k]? = some y) (e : x ≠ y) : decide (xs = ys) = false := by
  simp only [decide_eq_false_iff_not]; rintro rfl; rw [hx] at hy; exact e (by injection hy)
theorem agree_end {xs ys : List Int} {n : Nat} (h : agree xs ys n) (hx : xs.length = n) (hy : ys.length = n) : decide (xs = ys) = true := by
  unfold agree at h; rw [List.take_of_length_le (by omega), List.take_of_length_le (by omega)] at h; simp [h]
theorem lens_not {xs ys : List Int} {n m : Nat} (hx : xs.length = n) (hy : ys.length = m) (h : n ≠ m) : decide (xs = ys) = false := by
  simp only [decide_eq_false_iff_not]; rintro rfl; omega

theorem Try.info_toIntS : (Try.prog.info? 3).map (fun i => (i.zero, i.size, i.bytes)) = some (some (.int .i64 0), 1, 8) := by kernel_rfl
set_option maxHeartbeats 400000 in
theorem laws_toIntS (A : Option Addr) (n c : Nat) (zs : List Int) (w : World) (hr : Rd w w.heap.size A n (zs.map (.int .i64))) (hn : n ≤ 1048576) :
    Calls Try.prog 15 #[.slice A n c] w (Fresh 3 w (zs.map (.int .i64))) := by
  obtain ⟨i0, hi0, hz0, hz1, hz2⟩ := info_parts Try.info_toIntS
  have HZ := Lib.hid hr.ilen
  go_enter Try.func15, Try.ntmps15
  go_wp2_with (at_make; refine wpList_mk _ rfl _ _ _ rfl w.heap.size 3 i0 .i64 Try.underlying22 hi0 hz0 hz1 .i64 .i64 _ _ n rfl rfl rfl rfl (by rw [hz2]; omega) (by unfold maxLen; omega) (Nat.le_refl _) ?_; intro w1 hown1 hb1)
  go_loopw [4] (fun i wr => ∃ k : Nat, k ≤ n ∧ i = .int .i64 k ∧ wr.ownsRow w.heap.size 3 1 (.slice (some ⟨w.heap.size, 0, none⟩) n n) n (half .i64 zs n k) ∧ Below w.heap.size w wr)
    (fun i _ => n - (intOf i).toNat)
  case atStart => exact ⟨0, Nat.zero_le _, rfl, by rw [half_zero]; exact hown1, hb1⟩
  case round =>
    obtain ⟨k, hk, rfl, hown, hb⟩ := hrel
    by_cases hlt : k < n
    · obtain ⟨b, o, x, rfl, hbB, hx, hc⟩ := (hr.below hb (Nat.le_refl _)).int hlt
      have hst := hown.stored k (.int .i64 x)
      rw [half_next HZ.out hx] at hst
      have hcell := hown.cellAt k (by omega)
      rw [half_at HZ.out hlt] at hcell
      have hfz := hown.frozenAt k
      have HX := Lib.hid hx
      clear hx
      go_wp2
      go_roundw
      case rel => exact ⟨k + 1, by omega, by go_num, hst.1, hb.setCell (Nat.le_refl _) _⟩
      case measure => simp [intOf]; omega
    · obtain rfl : k = n := by omega
      go_wp2
      go_ret
      rw [half_full _ _ _ HZ.out] at hown
      exact ⟨_, _, _, rfl, Own.of hown (Nat.le_refl _), hb⟩

set_option maxHeartbeats 400000 in
theorem laws_eqIntS (A : Option Addr) (n c : Nat) (A2 : Option Addr) (m c2 : Nat) (xs ys : List Int) (w : World) (hx : Rd w w.heap.size A n (xs.map (.int .i64))) (hy : Rd w w.heap.size A2 m (ys.map (.int .i64))) (hn : n ≤ 9223372036854775806) (hm : m ≤ 9223372036854775806) :
    Calls Try.prog 17 #[.slice A n c, .slice A2 m c2] w (Says (.bool (decide (xs = ys))) w) := by
  have HX := Lib.hid hx.ilen
  have HY := Lib.hid hy.ilen
  by_cases hne : n = m
  · subst hne
    have hq : ((n : Int) != n) = false := by simp
    go_enter Try.func17, Try.ntmps17
    go_wp2
    go_loopw [5] (fun i wr => ∃ k : Nat, k ≤ n ∧ i = .int .i64 k ∧ agree xs ys k ∧ Below w.heap.size w wr) (fun i _ => n - (intOf i).toNat)
    case atStart => exact ⟨0, Nat.zero_le _, rfl, rfl, Below.refl _ _⟩
    case round =>
      obtain ⟨k, hk, rfl, hag, hb⟩ := hrel
      by_cases hlt : k < n
      · obtain ⟨b, o, x, rfl, hbB, hx1, hc⟩ := (hx.below hb (Nat.le_refl _)).int hlt
        obtain ⟨b2, o2, y, rfl, hbB2, hy1, hc2⟩ := (hy.below hb (Nat.le_refl _)).int hlt
        have k0 : (0 : Int) ≤ k := by omega
        have k1 : (k : Int) < n := by omega
        cases he : (x != y)
        · have HN := Lib.hid (agree_next hag hx1 hy1 (by simpa using he))
          clear hag hx1 hy1
          go_wp2
          go_quiet (fail)
          go_wp2
          go_roundw
          case rel => exact ⟨k + 1, by omega, by go_num, HN.out, below_drewN hb _⟩
          case measure => simp [intOf]; omega
        · have HN := Lib.hid (agree_not hx1 hy1 (by simpa using he))
          clear hag hx1 hy1
          go_wp2
          go_quiet (fail)
          go_wp2
          go_ret
          exact ⟨ret_bool HN.out.symm, below_drewN hb _⟩
      · obtain rfl : k = n := by omega
        have HN := Lib.hid (agree_end hag HX.out HY.out)
        clear hag
        go_wp2
        go_ret
        exact ⟨ret_bool HN.out.symm, hb⟩
  · have hq : ((n : Int) != m) = true := by simp; omega
    have HN := Lib.hid (lens_not HX.out HY.out hne)
    go_enter Try.func17, Try.ntmps17
    go_wp2
    go_ret
    exact ⟨ret_bool HN.out.symm, Below.refl _ _⟩

end Go.Proofs.Ytlcepceomlfnbaa
