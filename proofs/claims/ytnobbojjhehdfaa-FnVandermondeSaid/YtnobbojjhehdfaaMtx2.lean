/- Contracts of the products of a matrix and a vector. Conditions: stated with each theorem. -/
import Derived.Test.YtnobbojjhehdfaaMtx
namespace Go.Proofs.Ytnobbojjhehdfaa
open Go.RowKit
set_option maxRecDepth 100000

def Nc.mvB (rows : List (List Int)) (v : List Int) : Bool := Nc.matB rows && Nc.vecB v && decide (v.length = Nc.cols rows)
def Nc.mvR (rows : List (List Int)) (v : List Int) : List Int := rows.map fun r => Nc.dotS r v % 1019
def Nc.mulMV (rows : List (List Int)) (v : List Int) : List Int := if Nc.mvB rows v then Nc.mvR rows v else []
theorem Nc.mulMV_len (rows : List (List Int)) (v : List Int) : (Nc.mulMV rows v).length ≤ 40 := by
  unfold Nc.mulMV
  split
  · rename_i h
    simp only [Nc.mvB, Bool.and_eq_true] at h
    have := Nc.matB_len h.1.1
    simp [Nc.mvR]; omega
  · simp
theorem Qt.belowS {w w' : World} (h : Qt w w') : Below w'.heap.size w w' := by obtain ⟨q, rfl⟩ := h; exact below_drewN (Below.refl _ _) q
theorem RdM.qt {w w' : World} {A : Option Addr} {n : Nat} {rows : List (List Int)} (h : RdM w w.heap.size A n rows) (hq : Qt w w') : RdM w' w'.heap.size A n rows := (h.keep fun p _ => hq.cell p).more (Nat.le_of_eq hq.size.symm)
theorem Rd.qt {w w' : World} {A : Option Addr} {n : Nat} {xs : List Value} (h : Rd w w.heap.size A n xs) (hq : Qt w w') : Rd w' w'.heap.size A n xs := (h.keep fun p _ => hq.cell p).more (Nat.le_of_eq hq.size.symm)

theorem _root_.Go.World.ownsRow.kept1 {w w' : World} {base : Nat} {e : TypeId} {v : Value} {n : Nat} {xs : List Value} (h : w.ownsRow base e 1 v n xs) (hq : Qt w w') : w'.ownsRow base e 1 v n xs := by
  obtain ⟨q, rfl⟩ := hq; exact h

set_option maxHeartbeats 1000000 in
theorem impl_MulMatrixVector (A : Option Addr) (n c : Nat) (A2 : Option Addr) (m c2 : Nat) (rows : List (List Int)) (v : List Int) (w : World) (hr : RdM w w.heap.size A n rows) (hv : Rd w w.heap.size A2 m (v.map (.int .i64))) (hn : n ≤ 9223372036854775806) (hm : m ≤ 9223372036854775806) (hrn : ∀ xs ∈ rows, xs.length ≤ 9223372036854775806) :
    Calls Try.prog 23 #[.slice A n c, .slice A2 m c2] w (Fresh 3 w ((Nc.mulMV rows v).map (.int .i64))) := by
  obtain ⟨i0, hi0, hz0, hz1, hz2⟩ := info_parts Try.info_int
  have HL := Lib.hid hr.len
  have HY := Lib.hid hv.ilen
  have HRN := Lib.hid hrn
  clear hrn
  cases h1 : Nc.matB rows
  · have HE := Lib.hid (show Nc.mulMV rows v = [] by simp [Nc.mulMV, Nc.mvB, h1])
    have HM := Lib.hid h1
    clear h1
    go_enter Try.func23, Try.ntmps23
    go_wp2_with fail
    refine (impl_IsValidMatrix _ _ _ rows _ hr hn HRN.out).mono ?_
    rintro e w' ⟨rfl, rfl⟩
    rw [HM.out]
    go_wp2_with fail
    go_ret
    exact ⟨_, _, _, rfl, by rw [HE.out]; exact Own.of (World.ownsRow_nil _ _ _ _) (Nat.le_refl _), Below.refl _ _⟩
  cases h2 : Nc.vecB v
  · have HE := Lib.hid (show Nc.mulMV rows v = [] by simp [Nc.mulMV, Nc.mvB, h2])
    have HM := Lib.hid h1
    have HV := Lib.hid h2
    clear h1 h2
    go_enter Try.func23, Try.ntmps23
    go_wp2_with fail
    refine (impl_IsValidMatrix _ _ _ rows _ hr hn HRN.out).mono ?_
    rintro e w' ⟨rfl, rfl⟩
    rw [HM.out]
    go_wp2_with fail
    refine (impl_IsValidVector _ _ _ v _ hv hm).mono ?_
    rintro e w' ⟨rfl, rfl⟩
    rw [HV.out]
    go_wp2_with fail
    go_ret
    exact ⟨_, _, _, rfl, by rw [HE.out]; exact Own.of (World.ownsRow_nil _ _ _ _) (Nat.le_refl _), Below.refl _ _⟩
  obtain ⟨q, hq⟩ : ∃ q, q = Nc.cols rows := ⟨_, rfl⟩
  have HC := Lib.hid hq.symm
  by_cases h3 : m = q
  rotate_left
  · have HE := Lib.hid (show Nc.mulMV rows v = [] by unfold Nc.mulMV Nc.mvB; rw [h1, h2, HY.out, HC.out]; simp [h3])
    have HM := Lib.hid h1
    have HV := Lib.hid h2
    have hqq : ((m : Int) != q) = true := by simp; omega
    clear h1 h2 hq
    go_enter Try.func23, Try.ntmps23
    go_wp2_with fail
    refine (impl_IsValidMatrix _ _ _ rows _ hr hn HRN.out).mono ?_
    rintro e w' ⟨rfl, rfl⟩
    rw [HM.out]
    go_wp2_with fail
    refine (impl_IsValidVector _ _ _ v _ hv hm).mono ?_
    rintro e w' ⟨rfl, rfl⟩
    rw [HV.out]
    go_wp2_with fail
    refine (impl_ColumnsOf _ _ _ rows _ hr).mono ?_
    rintro e w' ⟨rfl, rfl⟩
    rw [HC.out]
    go_wp2_with fail
    go_ret
    exact ⟨_, _, _, rfl, by rw [HE.out]; exact Own.of (World.ownsRow_nil _ _ _ _) (Nat.le_refl _), Below.refl _ _⟩
  have HE := Lib.hid (show Nc.mulMV rows v = Nc.mvR rows v by unfold Nc.mulMV Nc.mvB; rw [h1, h2, HY.out, HC.out]; simp [h3])
  have hqq : ((m : Int) != m) = false := by simp
  have hn40 : n ≤ 40 := by rw [← HL.out]; exact Nc.matB_len h1
  have hm40 : m ≤ 40 := by rw [← HY.out]; exact Nc.vecB_len h2
  have HROW := Lib.hid (Nc.matB_row h1)
  have HM := Lib.hid h1
  have HV := Lib.hid h2
  subst h3
  clear h1 h2 hq
  go_enter Try.func23, Try.ntmps23
  go_wp2_with fail
  refine (impl_IsValidMatrix _ _ _ rows _ hr hn HRN.out).mono ?_
  rintro e w' ⟨rfl, rfl⟩
  rw [HM.out]
  go_wp2_with fail
  refine (impl_IsValidVector _ _ _ v _ hv hm).mono ?_
  rintro e w' ⟨rfl, rfl⟩
  rw [HV.out]
  go_wp2_with fail
  refine (impl_ColumnsOf _ _ _ rows _ hr).mono ?_
  rintro e w' ⟨rfl, rfl⟩
  rw [HC.out]
  go_wp2_with fail
  go_loopw [5, 25] (fun s i wr => ∃ (j : Nat) (A1 : Option Addr) (c1 : Nat), j ≤ n ∧ i = .int .i64 j ∧ s = .slice A1 j c1 ∧ wr.ownsRow w.heap.size 3 1 (.slice A1 j c1) j (((Nc.mvR rows v).take j).map (.int .i64)) ∧ Below w.heap.size w wr) (fun _ i _ => n - (intOf i).toNat)
  case atStart => exact ⟨0, _, _, Nat.zero_le _, rfl, rfl, World.ownsRow_nil _ _ _ _, Below.refl _ _⟩
  case round =>
    obtain ⟨j, A1, c1, hj, rfl, rfl, hown, hb⟩ := hrel
    have hsz := hb.size
    by_cases hlt : j < n
    · obtain ⟨b, o, Aj, nj, cj, x, rfl, hbB, hx, hc, _, _, hrd⟩ := (hr.below hb (Nat.le_refl _)).at_ hlt
      obtain ⟨hvx, hlx⟩ := HROW.out x (List.mem_of_getElem? hx)
      have hjm : nj ≤ m := by rw [← hrd.ilen, hlx, HC.out]; exact Nat.le_refl _
      have HD := Lib.hid (show Nc.dotV x v = Nc.dotS x v % 1019 by unfold Nc.dotV Nc.pairB; rw [hvx, HV.out, hlx, HC.out, HY.out]; simp)
      have HN := Lib.hid (take_next (show (Nc.mvR rows v)[j]? = some (Nc.dotS x v % 1019) by unfold Nc.mvR; rw [List.getElem?_map, hx]; rfl))
      clear hx
      go_wp2_with fail
      refine (impl_dot _ _ _ _ _ _ x v _ (hrd.more hsz) ((hv.below hb (Nat.le_refl _)).more hsz) hjm hvx HV.out).mono ?_
      rintro e w' ⟨rfl, rfl⟩
      go_wp2_with (first | (at_builtin; refine wpList_app1 _ rfl _ _ _ rfl w.heap.size 3 i0 _ 8 Try.underlying30 hi0 hz0 hz1 hz2 rfl A1 j c1 _ rfl hown (.int .i64 (Nc.dotS x v % 1019)) rfl _ rfl (by unfold maxLen; omega) (by omega) (by omega) ?_; intro A3 c3 w3 hown3 hb4) | fail)
      go_roundw
      case rel => exact ⟨j + 1, A3, c3, by omega, by go_num, rfl, by rw [HN.out, List.map_append]; exact hown3, hb.trans hb4⟩
      case measure => simp [intOf]; omega
    · obtain rfl : j = n := by omega
      go_wp2_with fail
      go_ret
      rw [List.take_of_length_le (by simp [Nc.mvR, HL.out])] at hown
      exact ⟨_, _, _, rfl, by rw [HE.out]; exact Own.of hown (Nat.le_refl _), hb⟩

end Go.Proofs.Ytnobbojjhehdfaa
