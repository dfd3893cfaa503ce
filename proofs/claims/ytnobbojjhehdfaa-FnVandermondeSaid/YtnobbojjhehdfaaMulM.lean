/- Contracts of the products of matrices. Conditions: stated with each theorem. -/
import Derived.Test.YtnobbojjhehdfaaTrans
import Derived.Test.YtnobbojjhehdfaaComb
namespace Go.Proofs.Ytnobbojjhehdfaa
open Go.RowKit
set_option maxRecDepth 100000

/-- A row of a product. -/
def Nc.mulRow (b : List (List Int)) (r : List Int) : List Int := Nc.combTo b r (Nc.cols b) b.length
def Nc.mulR (a b : List (List Int)) : List (List Int) := a.map (Nc.mulRow b)
def Nc.mulB (a b : List (List Int)) : Bool := Nc.matB a && Nc.matB b && decide (Nc.cols a = b.length)
def Nc.mulL (a b : List (List Int)) : List (List Int) := if Nc.mulB a b then Nc.mulR a b else []
theorem Nc.mulR_len (a b : List (List Int)) : (Nc.mulR a b).length = a.length := by simp [Nc.mulR]
theorem Nc.mulR_at {a b : List (List Int)} {k : Nat} {r : List Int} (h : a[k]? = some r) : (Nc.mulR a b)[k]? = some (Nc.mulRow b r) := by simp [Nc.mulR, h]
theorem Nc.combTo_zero (rows : List (List Int)) (cs : List Int) (n : Nat) : Nc.combTo rows cs n 0 = List.replicate n 0 := by simp [Nc.combTo]
theorem Nc.mulB_of {a b : List (List Int)} (h : Nc.mulB a b = true) : Nc.matB a = true ∧ Nc.matB b = true ∧ Nc.cols a = b.length := by
  simp only [Nc.mulB, Bool.and_eq_true, decide_eq_true_eq] at h
  exact ⟨h.1.1, h.1.2, h.2⟩
theorem Nc.mulL_len (a b : List (List Int)) : (Nc.mulL a b).length ≤ 40 := by
  unfold Nc.mulL
  split
  · rename_i h
    rw [Nc.mulR_len]; exact Nc.matB_len (Nc.mulB_of h).1
  · simp
theorem Nc.mulL_row (a b : List (List Int)) : ∀ r ∈ Nc.mulL a b, r.length ≤ 40 := by
  unfold Nc.mulL
  split
  · rename_i h
    obtain ⟨h1, h2, h3⟩ := Nc.mulB_of h
    intro r hr
    obtain ⟨x, hx, rfl⟩ := List.mem_map.1 hr
    unfold Nc.mulRow
    rw [Nc.combTo_len (fun r hr => (Nc.matB_row h2 r hr).2) _ (Nat.le_refl _) (by rw [(Nc.matB_row h1 x hx).2, h3]; exact Nat.le_refl _)]
    exact Nc.cols40 h2
  · simp

theorem Qt.trans {w w1 w2 : World} (h : Qt w w1) (k : Qt w1 w2) : Qt w w2 := by
  obtain ⟨q, rfl⟩ := k
  exact h.drewN q

set_option maxHeartbeats 4000000 in
theorem impl_MulMatrices (A : Option Addr) (n c : Nat) (A2 : Option Addr) (m c2 : Nat) (a b : List (List Int)) (w : World) (hr : RdM w w.heap.size A n a) (hr2 : RdM w w.heap.size A2 m b) (hn : n ≤ 9223372036854775806) (hm : m ≤ 9223372036854775806)
    (hrn : ∀ xs ∈ a, xs.length ≤ 9223372036854775806) (hrm : ∀ xs ∈ b, xs.length ≤ 9223372036854775806) :
    Calls Try.prog 15 #[.slice A n c, .slice A2 m c2] w (FreshM 3 30 w (Nc.mulL a b)) := by
  obtain ⟨i0, hi0, hz0, hz1, hz2⟩ := info_parts Try.info_row
  obtain ⟨j0, hj0, hy0, hy1, hy2⟩ := info_parts Try.info_int
  have HL := Lib.hid hr.len
  have HM := Lib.hid hr2.len
  have HRN := Lib.hid hrn
  have HRM := Lib.hid hrm
  clear hrn hrm
  cases h1 : Nc.matB a
  · have HE := Lib.hid (show Nc.mulL a b = [] by simp [Nc.mulL, Nc.mulB, h1])
    have HV := Lib.hid h1
    clear h1
    go_enter Try.func15, Try.ntmps15
    go_wp2_with fail
    refine (impl_IsValidMatrix _ _ _ a _ hr hn HRN.out).mono ?_
    rintro e w' ⟨rfl, rfl⟩
    rw [HV.out]
    go_wp2_with fail
    go_ret
    exact ⟨_, _, _, rfl, by rw [HE.out]; exact OwnM.nil (Nat.le_refl _), Below.refl _ _⟩
  have HV := Lib.hid h1
  cases h2 : Nc.matB b
  · have HE := Lib.hid (show Nc.mulL a b = [] by simp [Nc.mulL, Nc.mulB, h2])
    have HV2 := Lib.hid h2
    clear h1 h2
    go_enter Try.func15, Try.ntmps15
    go_wp2_with fail
    refine (impl_IsValidMatrix _ _ _ a _ hr hn HRN.out).mono ?_
    rintro e w' ⟨rfl, rfl⟩
    rw [HV.out]
    go_wp2_with fail
    refine (impl_IsValidMatrix _ _ _ b _ hr2 hm HRM.out).mono ?_
    rintro e w' ⟨rfl, rfl⟩
    rw [HV2.out]
    go_wp2_with fail
    go_ret
    exact ⟨_, _, _, rfl, by rw [HE.out]; exact OwnM.nil (Nat.le_refl _), Below.refl _ _⟩
  have HV2 := Lib.hid h2
  obtain ⟨p, hp⟩ : ∃ p, p = Nc.cols a := ⟨_, rfl⟩
  have HP := Lib.hid hp.symm
  by_cases h3 : p = m
  rotate_left
  · have HE := Lib.hid (show Nc.mulL a b = [] by unfold Nc.mulL Nc.mulB; rw [← hp, HM.out]; simp [h3])
    have hq : ((p : Int) != m) = true := by simp; omega
    clear h1 h2 hp
    go_enter Try.func15, Try.ntmps15
    go_wp2_with fail
    refine (impl_IsValidMatrix _ _ _ a _ hr hn HRN.out).mono ?_
    rintro e w' ⟨rfl, rfl⟩
    rw [HV.out]
    go_wp2_with fail
    refine (impl_IsValidMatrix _ _ _ b _ hr2 hm HRM.out).mono ?_
    rintro e w' ⟨rfl, rfl⟩
    rw [HV2.out]
    go_wp2_with fail
    refine (impl_ColumnsOf _ _ _ a _ hr).mono ?_
    rintro e w' ⟨rfl, rfl⟩
    rw [HP.out]
    go_wp2_with fail
    go_ret
    exact ⟨_, _, _, rfl, by rw [HE.out]; exact OwnM.nil (Nat.le_refl _), Below.refl _ _⟩
  have hq3 : ((p : Int) != m) = false := by simp; omega
  obtain ⟨q, hq⟩ : ∃ q, q = Nc.cols b := ⟨_, rfl⟩
  have HC := Lib.hid hq.symm
  have hn40 : n ≤ 40 := by rw [← HL.out]; exact Nc.matB_len h1
  have hm40 : m ≤ 40 := by rw [← HM.out]; exact Nc.matB_len h2
  have hq40 : q ≤ 40 := by rw [hq]; exact Nc.cols40 h2
  have HROW := Lib.hid (show ∀ r ∈ a, Nc.vecB r = true ∧ r.length = m from fun r hr' => by have := Nc.matB_row h1 r hr'; rw [← h3, hp]; exact this)
  have HROW2 := Lib.hid (show ∀ r ∈ b, Nc.vecB r = true ∧ r.length = q from fun r hr' => by have := Nc.matB_row h2 r hr'; rw [hq]; exact this)
  have HE := Lib.hid (show Nc.mulL a b = Nc.mulR a b by unfold Nc.mulL Nc.mulB; rw [h1, h2, ← hp, h3, HM.out]; simp)
  have HR := Lib.hid (show (Nc.mulR a b).length = n by rw [Nc.mulR_len, HL.out])
  clear h1 h2 h3 hq hp
  go_enter Try.func15, Try.ntmps15
  go_wp2_with fail
  refine (impl_IsValidMatrix _ _ _ a _ hr hn HRN.out).mono ?_
  rintro e w' ⟨rfl, rfl⟩
  rw [HV.out]
  go_wp2_with fail
  refine (impl_IsValidMatrix _ _ _ b _ hr2 hm HRM.out).mono ?_
  rintro e w' ⟨rfl, rfl⟩
  rw [HV2.out]
  go_wp2_with fail
  refine (impl_ColumnsOf _ _ _ a _ hr).mono ?_
  rintro e w' ⟨rfl, rfl⟩
  rw [HP.out]
  go_wp2_with (first | (at_make; refine wpList_mkS _ rfl _ _ _ rfl w.heap.size 30 i0 Try.underlying24 hi0 hz0 hz1 .i64 .i64 _ _ n rfl rfl rfl rfl (by rw [hz2]; omega) (by unfold maxLen; omega) (Nat.le_refl _) ?_; intro w1 hown1 hb1) | fail)
  go_loopw [30] (fun i wr => ∃ k : Nat, k ≤ n ∧ i = .int .i64 k ∧ OwnM 3 30 wr w.heap.size wr.heap.size (some ⟨w.heap.size, 0, none⟩) n n (halfR (Nc.mulR a b) n k) ∧ Below w.heap.size w wr) (fun i _ => n - (intOf i).toNat)
  case atStart => exact ⟨0, Nat.zero_le _, rfl, by rw [halfR_zero]; exact OwnM.made hown1 (Nat.le_refl _), hb1⟩
  case round =>
    obtain ⟨k, hk, rfl, hown, hb⟩ := hrel
    have hsz := hb.size
    clear hown1 hb1 hq3
    by_cases hlt : k < n
    · obtain ⟨ba, oa, Aj, nj, cj, xs, rfl, hbB, hx, hc, _, _, hrd⟩ := hr.at_ hlt
      have hc1 := (hb.cell (p := ⟨ba, oa + k, none⟩) hbB).trans hc
      obtain ⟨hvx, hlx⟩ := HROW.out xs (List.mem_of_getElem? hx)
      obtain rfl : m = nj := by rw [← hrd.ilen, hlx]
      have HXE := Lib.hid (Nc.vecB_el hvx)
      have HN := Lib.hid (halfR_next HR.out (Nc.mulR_at (b := b) hx))
      have HMR := Lib.hid (show Nc.mulRow b xs = Nc.combTo b xs q m by unfold Nc.mulRow; rw [HC.out, HM.out])
      obtain ⟨g0, v0, hg0, hglo, hghi, hcell0, hfz0⟩ := hown.outer hlt
      obtain rfl : w.heap.size = g0 := by injection hg0 with hg0; injection hg0
      obtain ⟨wo, hwo⟩ : ∃ wo : World, wo = wr := ⟨_, rfl⟩
      subst hwo
      have HRD := Lib.hid hrd
      clear hx hvx hlx hg0 hrd hc
      go_wp2_with fail
      refine (impl_ColumnsOf _ _ _ b _ ((hr2.below hb (Nat.le_refl _)).more hsz)).mono ?_
      rintro e w' ⟨rfl, rfl⟩
      rw [HC.out]
      go_wp2_with (first | (at_make; refine wpList_mk _ rfl _ _ _ rfl wo.heap.size 3 j0 .i64 Try.underlying30 hj0 hy0 hy1 .i64 .i64 _ _ q rfl rfl rfl rfl (by rw [hy2]; omega) (by unfold maxLen; omega) (Nat.le_refl _) ?_; intro w1 hown1 hb1; have hcell1 : w1.cell? ⟨w.heap.size, k, none⟩ = some v0 := (hb1.cell (p := ⟨w.heap.size, k, none⟩) hghi).trans hcell0; have hfz1 : w1.frozen? ⟨w.heap.size, k, none⟩ = false := (hb1.frozen (p := ⟨w.heap.size, k, none⟩) hghi).trans hfz0) | fail)
      have hset : OwnM 3 30 (w1.setCell ⟨w.heap.size, k, none⟩ (.slice (some ⟨wo.heap.size, 0, none⟩) q q)) w.heap.size w1.heap.size (some ⟨w.heap.size, 0, none⟩) n n ((halfR (Nc.mulR a b) n k).set k (Nc.combTo b xs q 0)) := by
        rw [Nc.combTo_zero]
        exact (hown.below hb1 (Nat.le_refl _)).setRow (j := k) (r := (some ⟨wo.heap.size, 0, none⟩, q, q)) (by decide) (by rw [← rd_of_replicate]; exact Own.of hown1 (Nat.le_refl _)) hsz (Nat.le_refl _) hb1.size
      have hb2 : Below w.heap.size w (w1.setCell ⟨w.heap.size, k, none⟩ (.slice (some ⟨wo.heap.size, 0, none⟩) q q)) := (hb.trans (hb1.mono hsz)).setCell (Nat.le_refl _) _
      clear hown1 hcell1 hfz1 hcell0 hfz0
      go_loopw [43] (fun jv wi => ∃ (j : Nat), j ≤ m ∧ jv = .int .i64 j ∧ OwnM 3 30 wi w.heap.size wi.heap.size (some ⟨w.heap.size, 0, none⟩) n n ((halfR (Nc.mulR a b) n k).set k (Nc.combTo b xs q j)) ∧ Below w.heap.size w wi) (fun j _ => m - (intOf j).toNat)
      case atStart => exact ⟨0, Nat.zero_le _, rfl, by simpa using hset, hb2⟩
      case round =>
        obtain ⟨j, hj, rfl, howi, hbi⟩ := hrel
        have hszi := hbi.size
        clear hset hb2
        by_cases hjl : j < m
        · obtain ⟨bx, ox, x, rfl, hbBx, hx, hcx⟩ := (HRD.out.below hbi (Nat.le_refl _)).int hjl
          obtain ⟨x0, x1⟩ := HXE.out x (List.mem_of_getElem? hx)
          obtain ⟨bb, ob, Ab, nb, cb, ys, rfl, hbBb, hy, hcb, _, _, hrdb⟩ := (hr2.below hbi (Nat.le_refl _)).at_ hjl
          obtain ⟨hvy, hly⟩ := HROW2.out ys (List.mem_of_getElem? hy)
          obtain rfl : q = nb := by rw [← hrdb.ilen, hly]
          obtain ⟨g, Ag, ng, cg, zs, hg, hzs, hcell, hrow, hput⟩ := howi.rowAt (by decide) hlt
          obtain rfl : w.heap.size = g := by injection hg with hg; injection hg
          rw [halfR_at HR.out hlt] at hzs
          simp only [Option.some.injEq] at hzs
          subst hzs
          have HLEN := Lib.hid (Nc.combTo_len (fun r hr' => (HROW2.out r hr').2) j (by rw [HM.out]; omega) (by rw [HRD.out.ilen]; omega))
          obtain rfl : q = ng := by have := hrow.len; simp only [List.length_map] at this; rw [← this, HLEN.out]
          have HT := Lib.hid (Nc.combTo_next (n := q) hy hx)
          have HPUT := Lib.hid hput
          have HROWN := Lib.hid hrow
          have HBLK := Lib.hid hrow.blk
          have HBI := Lib.hid hbi
          have HRDB := Lib.hid hrdb
          have HVY := Lib.hid (Nc.vecB_el hvy)
          have k0 : (0 : Int) ≤ k := by omega
          have k1 : (k : Int) < n := by omega
          have e0 : (0 : Int) ≤ j := by omega
          have e1 : (j : Int) < m := by omega
          clear hput hrow hg hx hy hvy hly hrdb howi hown hb hbi
          go_wp2_with fail
          go_region_with ((go_at_call 85; refine (impl_addScaled _ _ _ _ _ x (Nc.combTo b xs q j) ys _ _ _ (by exact HROWN.out) (by exact HRDB.out) (by exact hszi) (Nc.combTo_el _ _ _ _) HVY.out x0 x1 (by omega)).mono ?_; rintro e w2 ⟨rfl, ho2, hg2⟩))
          all_goals
            have hgw : wr.grownBy w2 (Ag.map (·.block)) := ⟨hg2.os, hg2.tape, hg2.output, hg2.size, hg2.block⟩
            have hs2 := hgw.size
            have hm2 := HPUT.out w2 _ ho2 hgw
            rw [List.set_set, ← HT.out] at hm2
            have hb2 := HBI.out.grown hgw hszi (fun g hg => (HBLK.out g hg).1)
            clear hg2 ho2
            go_wp2_with fail
            go_roundw
            case rel => exact ⟨j + 1, by omega, by go_num, hm2.more (Nat.le_refl _) hs2, hb2⟩
            case measure => simp [intOf]; omega
        · obtain rfl : j = m := by omega
          go_wp2_with fail
          go_roundw
          case rel => exact ⟨k + 1, by omega, by go_num, by rw [← HN.out, HMR.out]; exact howi, hbi⟩
          case measure => simp [intOf]; omega
    · obtain rfl : k = n := by omega
      go_wp2_with fail
      go_ret
      rw [halfR_full _ _ HR.out] at hown
      exact ⟨_, _, _, rfl, by rw [HE.out]; exact hown, hb⟩

end Go.Proofs.Ytnobbojjhehdfaa
