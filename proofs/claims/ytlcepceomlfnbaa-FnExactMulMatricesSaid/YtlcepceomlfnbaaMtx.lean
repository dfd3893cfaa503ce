/- Contracts of the validity and the equality of matrices. Conditions: stated with each theorem. -/
import Derived.Test.YtlcepceomlfnbaaMat3
import Derived.Test.YtlcepceomlfnbaaDot
namespace Go.Proofs.Ytlcepceomlfnbaa
open Go.RowKit

def Nc.rowB (n : Nat) (r : List Int) : Bool := Nc.vecB r && decide (r.length = n)
def Nc.matB (rows : List (List Int)) : Bool := rows.all (Nc.rowB (Nc.cols rows)) && decide (rows.length ≤ 40)
def MatIs (rows : List (List Int)) (k : Nat) : Prop := rows.all (Nc.rowB (Nc.cols rows)) = (rows.drop k).all (Nc.rowB (Nc.cols rows))
theorem mat_next {rows : List (List Int)} {k : Nat} {xs : List Int} (h : MatIs rows k) (hx : rows[k]? = some xs) (hv : Nc.vecB xs = true) (hl : xs.length = Nc.cols rows) : MatIs rows (k + 1) := by
  unfold MatIs at h ⊢
  rw [h, drop_next hx, List.all_cons]
  simp [Nc.rowB, hv, hl]
theorem mat_no {rows : List (List Int)} {k : Nat} {xs : List Int} (hx : rows[k]? = some xs) (hv : Nc.vecB xs = false ∨ xs.length ≠ Nc.cols rows) : Nc.matB rows = false := by
  have : rows.all (Nc.rowB (Nc.cols rows)) = false := List.all_eq_false.2 ⟨xs, List.mem_of_getElem? hx, by rcases hv with h | h <;> simp [Nc.rowB, h]⟩
  simp [Nc.matB, this]
theorem mat_end {rows : List (List Int)} {n : Nat} (h : MatIs rows n) (hl : rows.length = n) : Nc.matB rows = decide ((n : Int) ≤ 40) := by
  unfold MatIs at h; rw [List.drop_of_length_le (by omega)] at h
  unfold Nc.matB; rw [h, hl, List.all_nil, Bool.true_and]; congr 1; exact propext (by omega)
theorem Nc.matB_row {rows : List (List Int)} (h : Nc.matB rows = true) : ∀ r ∈ rows, Nc.vecB r = true ∧ r.length = Nc.cols rows := by
  intro r hr
  simp only [Nc.matB, Bool.and_eq_true, List.all_eq_true] at h
  have := h.1 r hr
  simpa [Nc.rowB] using this
theorem Nc.matB_len {rows : List (List Int)} (h : Nc.matB rows = true) : rows.length ≤ 40 := by
  simp only [Nc.matB, Bool.and_eq_true, decide_eq_true_eq] at h; exact h.2
theorem cols_at {rows : List (List Int)} {xs : List Int} (h : rows[0]? = some xs) : Nc.cols rows = xs.length := by
  cases rows with
  | nil => simp at h
  | cons r rs => simp at h; subst h; rfl
theorem quiet_pure {P : Program} {f : FuncId} {args : Array Value} {w : World} {n : Nat} {b d : Bool}
    (h : Calls P f args (w.drewN n) fun e w' => e = .returned (.bool d) ∧ w.drewN n = w') (hd : d = b) : Calls P f args (w.drewN n) fun e w'' => e = .returned (.bool b) ∧ ∃ m, w'' = w.drewN m :=
  h.mono fun _ _ ⟨he, hm⟩ => ⟨by rw [he, hd], n, hm.symm⟩

set_option maxHeartbeats 1000000 in
theorem impl_IsValidMatrix (A : Option Addr) (n c : Nat) (rows : List (List Int)) (w : World) (hr : RdM w w.heap.size A n rows) (hn : n ≤ 9223372036854775806) (hrn : ∀ xs ∈ rows, xs.length ≤ 9223372036854775806) :
    Calls Try.prog 30 #[.slice A n c] w fun e w' => e = .returned (.bool (Nc.matB rows)) ∧ w = w' := by
  have HL := Lib.hid hr.len
  have HRN := Lib.hid hrn
  clear hrn
  go_enter Try.func30, Try.ntmps30
  go_wp2
  go_loop [7] (fun i => ∃ k : Nat, k ≤ n ∧ i = .int .i64 k ∧ MatIs rows k) (fun i => n - (intOf i).toNat)
  case atStart => exact ⟨0, Nat.zero_le _, rfl, rfl⟩
  case round =>
    obtain ⟨k, hk, rfl, hI⟩ := hrel
    by_cases hlt : k < n
    · obtain ⟨b0, o0, A0, n0, c0, xs0, hA0, _, hx0, hc0, _, _, hrd0⟩ := hr.at_ (show 0 < n by omega)
      obtain ⟨b, o, Aj, nj, cj, xs, rfl, hbB, hx, hc, _, _, hrd⟩ := hr.at_ hlt
      injection hA0 with hA0
      injection hA0 with e1 e2
      subst e1 e2
      rw [Nat.add_zero] at hc0
      have HC := Lib.hid (show Nc.cols rows = n0 by rw [cols_at hx0, hrd0.ilen])
      have HX := Lib.hid hrd.ilen
      have hnj : nj ≤ 9223372036854775806 := by rw [← hrd.ilen]; exact HRN.out xs (List.mem_of_getElem? hx)
      have hp : 0 < n := by omega
      clear hx0 hrd0
      cases hv : Nc.vecB xs
      · have HN := Lib.hid (mat_no hx (.inl hv))
        clear hx hI
        go_wp2_with fail
        refine (impl_IsValidVector _ _ _ xs _ hrd hnj).mono ?_
        rintro e w' ⟨rfl, rfl⟩
        rw [hv]
        go_wp2_with fail
        go_ret
        exact ⟨ret_bool HN.out.symm, rfl⟩
      · by_cases he : nj = n0
        · have HN := Lib.hid (mat_next hI hx hv (by rw [HX.out, HC.out, he]))
          have hq : ((nj : Int) != n0) = false := by simp [he]
          have HV := Lib.hid hv
          clear hx hI he hv
          go_wp2_with fail
          refine (impl_IsValidVector _ _ _ xs _ hrd hnj).mono ?_
          rintro e w' ⟨rfl, rfl⟩
          rw [HV.out]
          go_wp2_with fail
          go_round
          case rel => exact ⟨k + 1, by omega, by go_num, HN.out⟩
          case measure => simp [intOf]; omega
        · have HN := Lib.hid (mat_no hx (.inr (by rw [HX.out, HC.out]; exact he)))
          have hq : ((nj : Int) != n0) = true := by simp; omega
          have HV := Lib.hid hv
          clear hx hI he hv
          go_wp2_with fail
          refine (impl_IsValidVector _ _ _ xs _ hrd hnj).mono ?_
          rintro e w' ⟨rfl, rfl⟩
          rw [HV.out]
          go_wp2_with fail
          go_ret
          exact ⟨ret_bool HN.out.symm, rfl⟩
    · obtain rfl : k = n := by omega
      have HN := Lib.hid (mat_end hI HL.out)
      clear hI
      go_wp2
      go_ret
      exact ⟨ret_bool HN.out.symm, rfl⟩

set_option maxHeartbeats 1000000 in
theorem spec_IsValidMatrix (A : Option Addr) (n c : Nat) (rows : List (List Int)) (w : World) (hr : RdM w w.heap.size A n rows) (hn : n ≤ 9223372036854775806) (hrn : ∀ xs ∈ rows, xs.length ≤ 9223372036854775806) :
    Calls Try.prog 28 #[.slice A n c] w fun e w' => e = .returned (.bool (Nc.matB rows)) ∧ Qt w w' := by
  have HL := Lib.hid hr.len
  have HRN := Lib.hid hrn
  clear hrn
  go_enter Try.func28, Try.ntmps28
  go_wp2
  go_loopw [3] (fun i wr => ∃ k : Nat, k ≤ n ∧ i = .int .i64 k ∧ MatIs rows k ∧ Qt w wr) (fun i _ => n - (intOf i).toNat)
  case atStart => exact ⟨0, Nat.zero_le _, rfl, rfl, Qt.refl _⟩
  case round =>
    obtain ⟨k, hk, rfl, hI, hqt⟩ := hrel
    by_cases hlt : k < n
    · have hr1 := hr.keep fun p _ => hqt.cell p
      obtain ⟨b0, o0, A0, n0, c0, xs0, hA0, _, hx0, hc0, _, _, hrd0⟩ := hr1.at_ (show 0 < n by omega)
      obtain ⟨b, o, Aj, nj, cj, xs, rfl, hbB, hx, hc, _, _, hrd⟩ := hr1.at_ hlt
      injection hA0 with hA0
      injection hA0 with e1 e2
      subst e1 e2
      rw [Nat.add_zero] at hc0
      have HC := Lib.hid (show Nc.cols rows = n0 by rw [cols_at hx0, hrd0.ilen])
      have HX := Lib.hid hrd.ilen
      have hnj : nj ≤ 9223372036854775806 := by rw [← hrd.ilen]; exact HRN.out xs (List.mem_of_getElem? hx)
      have HRD := Lib.hid (show ∀ q, Rd (wr.drewN q) (wr.drewN q).heap.size Aj nj (xs.map (.int .i64)) from fun q => hrd.more (Nat.le_of_eq hqt.size.symm))
      have k0 : (0 : Int) ≤ k := by omega
      have k1 : (k : Int) < n := by omega
      have z1 : (0 : Int) < n := by omega
      have hp : 0 < n := by omega
      clear hx0 hrd0 hrd hr1
      cases hv : Nc.vecB xs
      · have HN := Lib.hid (mat_no hx (.inl hv))
        have HV := Lib.hid hv
        clear hx hI hv
        go_wp2
        go_quiet ((go_at_call 45; exact quiet_pure (spec_IsValidVector _ _ _ xs _ (HRD.out _) hnj) HV.out))
        go_wp2
        go_ret
        exact ⟨ret_bool HN.out.symm, hqt.drewN _⟩
      · by_cases he : nj = n0
        · have HN := Lib.hid (mat_next hI hx hv (by rw [HX.out, HC.out, he]))
          have hq : ((nj : Int) != n0) = false := by simp [he]
          have HV := Lib.hid hv
          clear hx hI he hv
          go_wp2
          go_quiet ((go_at_call 45; exact quiet_pure (spec_IsValidVector _ _ _ xs _ (HRD.out _) hnj) HV.out))
          go_wp2
          go_roundw
          case rel => exact ⟨k + 1, by omega, by go_num, HN.out, hqt.drewN _⟩
          case measure => simp [intOf]; omega
        · have HN := Lib.hid (mat_no hx (.inr (by rw [HX.out, HC.out]; exact he)))
          have hq : ((nj : Int) != n0) = true := by simp; omega
          have HV := Lib.hid hv
          clear hx hI he hv
          go_wp2
          go_quiet ((go_at_call 45; exact quiet_pure (spec_IsValidVector _ _ _ xs _ (HRD.out _) hnj) HV.out))
          go_wp2
          go_ret
          exact ⟨ret_bool HN.out.symm, hqt.drewN _⟩
    · obtain rfl : k = n := by omega
      have HN := Lib.hid (mat_end hI HL.out)
      clear hI
      go_wp2
      go_ret
      exact ⟨ret_bool HN.out.symm, hqt⟩

set_option maxHeartbeats 400000 in
theorem spec_EqualInts_q (A : Option Addr) (n c : Nat) (A2 : Option Addr) (m c2 : Nat) (xs ys : List Int) (w : World) (hx : Rd w w.heap.size A n (xs.map (.int .i64))) (hy : Rd w w.heap.size A2 m (ys.map (.int .i64))) (hn : n ≤ 9223372036854775806) (hm : m ≤ 9223372036854775806) :
    Calls Try.prog 56 #[.slice A n c, .slice A2 m c2] w fun e w' => e = .returned (.bool (decide (xs = ys))) ∧ Qt w w' := by
  have HX := Lib.hid hx.ilen
  have HY := Lib.hid hy.ilen
  by_cases hne : n = m
  · subst hne
    have hq : ((n : Int) != n) = false := by simp
    go_enter Try.func56, Try.ntmps56
    go_wp2
    go_loopw [5] (fun i wr => ∃ k : Nat, k ≤ n ∧ i = .int .i64 k ∧ agree xs ys k ∧ Qt w wr) (fun i _ => n - (intOf i).toNat)
    case atStart => exact ⟨0, Nat.zero_le _, rfl, rfl, Qt.refl _⟩
    case round =>
      obtain ⟨k, hk, rfl, hag, hqt⟩ := hrel
      by_cases hlt : k < n
      · obtain ⟨b, o, x, rfl, hbB, hx1, hc⟩ := (hx.keep fun p _ => hqt.cell p).int hlt
        obtain ⟨b2, o2, y, rfl, hbB2, hy1, hc2⟩ := (hy.keep fun p _ => hqt.cell p).int hlt
        have k0 : (0 : Int) ≤ k := by omega
        have k1 : (k : Int) < n := by omega
        cases he : (x != y)
        · have HN := Lib.hid (agree_next hag hx1 hy1 (by simpa using he))
          clear hag hx1 hy1
          go_wp2
          go_quiet (fail)
          go_wp2
          go_roundw
          case rel => exact ⟨k + 1, by omega, by go_num, HN.out, hqt.drewN _⟩
          case measure => simp [intOf]; omega
        · have HN := Lib.hid (agree_not hx1 hy1 (by simpa using he))
          clear hag hx1 hy1
          go_wp2
          go_quiet (fail)
          go_wp2
          go_ret
          exact ⟨ret_bool HN.out.symm, hqt.drewN _⟩
      · obtain rfl : k = n := by omega
        have HN := Lib.hid (agree_end hag HX.out HY.out)
        clear hag
        go_wp2
        go_ret
        exact ⟨ret_bool HN.out.symm, hqt⟩
  · have hq : ((n : Int) != m) = true := by simp; omega
    have HN := Lib.hid (lens_not HX.out HY.out hne)
    go_enter Try.func56, Try.ntmps56
    go_wp2
    go_ret
    exact ⟨ret_bool HN.out.symm, Qt.refl _⟩

set_option maxHeartbeats 400000 in
theorem spec_EqualMatrices (A : Option Addr) (n c : Nat) (A2 : Option Addr) (m c2 : Nat) (xss yss : List (List Int)) (w : World) (hx : RdM w w.heap.size A n xss) (hy : RdM w w.heap.size A2 m yss) (hn : n ≤ 9223372036854775806) (hm : m ≤ 9223372036854775806)
    (hnx : ∀ xs ∈ xss, xs.length ≤ 9223372036854775806) (hny : ∀ ys ∈ yss, ys.length ≤ 9223372036854775806) :
    Calls Try.prog 33 #[.slice A n c, .slice A2 m c2] w fun e w' => e = .returned (.bool (decide (xss = yss))) ∧ Qt w w' := by
  have HX := Lib.hid hx.len
  have HY := Lib.hid hy.len
  have HNX := Lib.hid hnx
  have HNY := Lib.hid hny
  clear hnx hny
  by_cases hne : n = m
  · subst hne
    have hq : ((n : Int) != n) = false := by simp
    go_enter Try.func33, Try.ntmps33
    go_wp2
    go_loopw [5] (fun i wr => ∃ k : Nat, k ≤ n ∧ i = .int .i64 k ∧ agreeM xss yss k ∧ Qt w wr) (fun i _ => n - (intOf i).toNat)
    case atStart => exact ⟨0, Nat.zero_le _, rfl, rfl, Qt.refl _⟩
    case round =>
      obtain ⟨k, hk, rfl, hag, hqt⟩ := hrel
      by_cases hlt : k < n
      · obtain ⟨b, o, Aj, nj, cj, x, rfl, hbB, hx1, hc, _, _, hrx⟩ := (hx.keep fun p _ => hqt.cell p).at_ hlt
        obtain ⟨b2, o2, Bj, mj, dj, y, rfl, hbB2, hy1, hc2, _, _, hry⟩ := (hy.keep fun p _ => hqt.cell p).at_ hlt
        have bx : nj ≤ 9223372036854775806 := by rw [← hrx.ilen]; exact HNX.out x (List.mem_of_getElem? hx1)
        have by_ : mj ≤ 9223372036854775806 := by rw [← hry.ilen]; exact HNY.out y (List.mem_of_getElem? hy1)
        have k0 : (0 : Int) ≤ k := by omega
        have k1 : (k : Int) < n := by omega
        have hrx' : ∀ q, Rd (wr.drewN q) (wr.drewN q).heap.size Aj nj (x.map (.int .i64)) := fun q => hrx.more (Nat.le_of_eq hqt.size.symm)
        have hry' : ∀ q, Rd (wr.drewN q) (wr.drewN q).heap.size Bj mj (y.map (.int .i64)) := fun q => hry.more (Nat.le_of_eq hqt.size.symm)
        have HRX := Lib.hid hrx'
        have HRY := Lib.hid hry'
        clear hrx hry hrx' hry'
        cases he : decide (x = y)
        · have HN := Lib.hid (agreeM_not hx1 hy1 (by simpa using he))
          clear hag hx1 hy1
          go_wp2
          go_quiet ((go_at_call 56; exact quiet_dec (spec_EqualInts_q _ _ _ _ _ _ x y _ (HRX.out _) (HRY.out _) bx by_) he))
          go_wp2
          go_ret
          exact ⟨ret_bool HN.out.symm, hqt.drewN _⟩
        · have HN := Lib.hid (agreeM_next hag hx1 hy1 (by simpa using he))
          clear hag hx1 hy1
          go_wp2
          go_quiet ((go_at_call 56; exact quiet_dec (spec_EqualInts_q _ _ _ _ _ _ x y _ (HRX.out _) (HRY.out _) bx by_) he))
          go_wp2
          go_roundw
          case rel => exact ⟨k + 1, by omega, by go_num, HN.out, hqt.drewN _⟩
          case measure => simp [intOf]; omega
      · obtain rfl : k = n := by omega
        have HN := Lib.hid (agreeM_end hag HX.out HY.out)
        clear hag
        go_wp2
        go_ret
        exact ⟨ret_bool HN.out.symm, hqt⟩
  · have hq : ((n : Int) != m) = true := by simp; omega
    have HN := Lib.hid (lensM_not HX.out HY.out hne)
    go_enter Try.func33, Try.ntmps33
    go_wp2
    go_ret
    exact ⟨ret_bool HN.out.symm, Qt.refl _⟩

theorem impl_EqualMatrices_1 (A : Option Addr) (n c : Nat) (A2 : Option Addr) (m c2 : Nat) (xs ys : List Int) (w : World) (hx : Rd w w.heap.size A n (xs.map (.int .i64))) (hy : Rd w w.heap.size A2 m (ys.map (.int .i64))) (hn : n ≤ 9223372036854775806) (hm : m ≤ 9223372036854775806) :
    Calls Try.prog 58 #[.slice A n c, .slice A2 m c2] w (Says (.bool (decide (xs = ys))) w) := by
  go_enter Try.func58, Try.ntmps58
  go_wp2_with fail
  refine (slices_Equal_int _ _ _ _ _ _ xs ys _ hx hy hn hm).mono ?_
  rintro e w1 ⟨rfl, hb1⟩
  go_wp2_with fail
  go_ret
  exact ⟨rfl, hb1⟩
set_option maxHeartbeats 1000000 in
theorem slices_EqualFunc (A : Option Addr) (n c : Nat) (A2 : Option Addr) (m c2 : Nat) (xss yss : List (List Int)) (w : World) (hx : RdM w w.heap.size A n xss) (hy : RdM w w.heap.size A2 m yss) (hn : n ≤ 9223372036854775806) (hm : m ≤ 9223372036854775806)
    (hnx : ∀ xs ∈ xss, xs.length ≤ 9223372036854775806) (hny : ∀ ys ∈ yss, ys.length ≤ 9223372036854775806) :
    Calls Try.prog 57 #[.slice A n c, .slice A2 m c2, .func (.func 58) #[] #[]] w (Says (.bool (decide (xss = yss))) w) := by
  have HX := Lib.hid hx.len
  have HY := Lib.hid hy.len
  have HNX := Lib.hid hnx
  have HNY := Lib.hid hny
  clear hnx hny
  by_cases hne : n = m
  · subst hne
    have hq : ((n : Int) != n) = false := by simp
    go_enter Try.func57, Try.ntmps57
    go_wp2_with fail
    go_loopw [17] (fun i wr => ∃ k : Nat, k ≤ n ∧ i = .int .i64 k ∧ agreeM xss yss k ∧ Below w.heap.size w wr) (fun i _ => n - (intOf i).toNat)
    case atStart => exact ⟨0, Nat.zero_le _, rfl, rfl, Below.refl _ _⟩
    case round =>
      obtain ⟨k, hk, rfl, hag, hb⟩ := hrel
      have hsz := hb.size
      by_cases hlt : k < n
      · obtain ⟨b, o, Aj, nj, cj, x, rfl, hbB, hx1, hc, _, _, hrx⟩ := (hx.below hb (Nat.le_refl _)).at_ hlt
        obtain ⟨b2, o2, Bj, mj, dj, y, rfl, hbB2, hy1, hc2, _, _, hry⟩ := (hy.below hb (Nat.le_refl _)).at_ hlt
        have bx : nj ≤ 9223372036854775806 := by rw [← hrx.ilen]; exact HNX.out x (List.mem_of_getElem? hx1)
        have by_ : mj ≤ 9223372036854775806 := by rw [← hry.ilen]; exact HNY.out y (List.mem_of_getElem? hy1)
        have HRX := Lib.hid (hrx.more hsz)
        have HRY := Lib.hid (hry.more hsz)
        clear hrx hry
        cases he : decide (x = y)
        · have HN := Lib.hid (agreeM_not hx1 hy1 (by simpa using he))
          have HE := Lib.hid he
          clear hag hx1 hy1 he
          go_wp2_with fail
          refine (impl_EqualMatrices_1 _ _ _ _ _ _ x y _ HRX.out HRY.out bx by_).mono ?_
          rintro e w2 ⟨rfl, hb2⟩
          rw [HE.out]
          go_wp2_with fail
          go_ret
          exact ⟨ret_bool HN.out.symm, hb.trans (hb2.mono hsz)⟩
        · have HN := Lib.hid (agreeM_next hag hx1 hy1 (by simpa using he))
          have HE := Lib.hid he
          clear hag hx1 hy1 he
          go_wp2_with fail
          refine (impl_EqualMatrices_1 _ _ _ _ _ _ x y _ HRX.out HRY.out bx by_).mono ?_
          rintro e w2 ⟨rfl, hb2⟩
          rw [HE.out]
          go_wp2_with fail
          go_roundw
          case rel => exact ⟨k + 1, by omega, by go_num, HN.out, hb.trans (hb2.mono hsz)⟩
          case measure => simp [intOf]; omega
      · obtain rfl : k = n := by omega
        have HN := Lib.hid (agreeM_end hag HX.out HY.out)
        clear hag
        go_wp2
        go_ret
        exact ⟨ret_bool HN.out.symm, hb⟩
  · have hq : ((n : Int) != m) = true := by simp; omega
    have HN := Lib.hid (lensM_not HX.out HY.out hne)
    go_enter Try.func57, Try.ntmps57
    go_wp2_with fail
    go_ret
    exact ⟨ret_bool HN.out.symm, Below.refl _ _⟩
theorem impl_EqualMatrices (A : Option Addr) (n c : Nat) (A2 : Option Addr) (m c2 : Nat) (xss yss : List (List Int)) (w : World) (hx : RdM w w.heap.size A n xss) (hy : RdM w w.heap.size A2 m yss) (hn : n ≤ 9223372036854775806) (hm : m ≤ 9223372036854775806)
    (hnx : ∀ xs ∈ xss, xs.length ≤ 9223372036854775806) (hny : ∀ ys ∈ yss, ys.length ≤ 9223372036854775806) :
    Calls Try.prog 34 #[.slice A n c, .slice A2 m c2] w (Says (.bool (decide (xss = yss))) w) := by
  have HNX := Lib.hid hnx
  have HNY := Lib.hid hny
  clear hnx hny
  go_enter Try.func34, Try.ntmps34
  go_wp2_with fail
  refine (slices_EqualFunc _ _ _ _ _ _ xss yss _ hx hy hn hm HNX.out HNY.out).mono ?_
  rintro e w1 ⟨rfl, hb1⟩
  go_wp2_with fail
  go_ret
  exact ⟨rfl, hb1⟩

end Go.Proofs.Ytlcepceomlfnbaa
