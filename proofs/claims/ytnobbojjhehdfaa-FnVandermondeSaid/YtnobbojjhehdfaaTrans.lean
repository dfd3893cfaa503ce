/- Contracts of the transposed matrices. Conditions: stated with each theorem. -/
import Derived.Test.YtnobbojjhehdfaaVan
import Derived.Test.YtnobbojjhehdfaaMix
import Derived.Test.YtnobbojjhehdfaaMtx2
import Derived.Deep.RegionLaw
namespace Go.Proofs.Ytnobbojjhehdfaa
open Go.RowKit
set_option maxRecDepth 100000

theorem OwnM.keptQ {eI eS : TypeId} {w w' : World} {lo hi hi' n c : Nat} {A : Option Addr} {rows : List (List Int)} (h : OwnM eI eS w lo hi A n c rows) (hq : Qt w w') (hh : hi ≤ hi') : OwnM eI eS w' lo hi' A n c rows := by
  obtain ⟨q, rfl⟩ := hq
  exact (h.below (C := hi) (below_drewN (Below.refl _ _) q) (Nat.le_refl _)).more (Nat.le_refl _) hh
/-- A column of a matrix. -/
def Nc.colOf (rows : List (List Int)) (k : Nat) : List Int := rows.map fun r => r.getD k 0
def Nc.trR (rows : List (List Int)) : List (List Int) := (List.range (Nc.cols rows)).map (Nc.colOf rows)
def Nc.trL (rows : List (List Int)) : List (List Int) := if Nc.matB rows then Nc.trR rows else []
theorem Nc.colOf_len (rows : List (List Int)) (k : Nat) : (Nc.colOf rows k).length = rows.length := by simp [Nc.colOf]
theorem Nc.colOf_at {rows : List (List Int)} {j k : Nat} {xs : List Int} {x : Int} (h : rows[j]? = some xs) (hx : xs[k]? = some x) : (Nc.colOf rows k)[j]? = some x := by
  simp [Nc.colOf, h, List.getD, hx]
theorem Nc.trR_len (rows : List (List Int)) : (Nc.trR rows).length = Nc.cols rows := by simp [Nc.trR]
theorem Nc.trR_at {rows : List (List Int)} {k : Nat} (h : k < Nc.cols rows) : (Nc.trR rows)[k]? = some (Nc.colOf rows k) := by simp [Nc.trR, h]
theorem Nc.cols40 {rows : List (List Int)} (h : Nc.matB rows = true) : Nc.cols rows ≤ 40 := by
  cases rows with
  | nil => simp [Nc.cols]
  | cons r t =>
    have := Nc.matB_row h r (by simp)
    rw [← this.2]; exact Nc.vecB_len this.1
theorem Nc.trL_len (rows : List (List Int)) : (Nc.trL rows).length ≤ 40 := by
  unfold Nc.trL
  split
  · rename_i h
    rw [Nc.trR_len]; exact Nc.cols40 h
  · simp
theorem Nc.trL_row (rows : List (List Int)) : ∀ r ∈ Nc.trL rows, r.length ≤ 40 := by
  unfold Nc.trL
  split
  · rename_i h
    intro r hr
    obtain ⟨i, _, rfl⟩ := List.mem_map.1 hr
    rw [Nc.colOf_len]; exact Nc.matB_len h
  · simp

set_option maxHeartbeats 4000000 in
theorem impl_Transpose (A : Option Addr) (n c : Nat) (rows : List (List Int)) (w : World) (hr : RdM w w.heap.size A n rows) (hn : n ≤ 9223372036854775806) (hrn : ∀ xs ∈ rows, xs.length ≤ 9223372036854775806) :
    Calls Try.prog 20 #[.slice A n c] w (FreshM 3 30 w (Nc.trL rows)) := by
  obtain ⟨i0, hi0, hz0, hz1, hz2⟩ := info_parts Try.info_row
  obtain ⟨j0, hj0, hy0, hy1, hy2⟩ := info_parts Try.info_int
  have HL := Lib.hid hr.len
  have HRN := Lib.hid hrn
  clear hrn
  cases h1 : Nc.matB rows
  · have HE := Lib.hid (show Nc.trL rows = [] by simp [Nc.trL, h1])
    have HV := Lib.hid h1
    clear h1
    go_enter Try.func20, Try.ntmps20
    go_wp2_with fail
    refine (impl_IsValidMatrix _ _ _ rows _ hr hn HRN.out).mono ?_
    rintro e w' ⟨rfl, rfl⟩
    rw [HV.out]
    go_wp2_with fail
    go_ret
    exact ⟨_, _, _, rfl, by rw [HE.out]; exact OwnM.nil (Nat.le_refl _), Below.refl _ _⟩
  have HV := Lib.hid h1
  obtain ⟨q, hq⟩ : ∃ q, q = Nc.cols rows := ⟨_, rfl⟩
  have HC := Lib.hid hq.symm
  have hn40 : n ≤ 40 := by rw [← HL.out]; exact Nc.matB_len h1
  have hq40 : q ≤ 40 := by rw [hq]; exact Nc.cols40 h1
  have HROW := Lib.hid (Nc.matB_row h1)
  have HE := Lib.hid (show Nc.trL rows = Nc.trR rows by simp [Nc.trL, h1])
  have HR := Lib.hid (show (Nc.trR rows).length = q by rw [Nc.trR_len, hq])
  clear h1 hq
  go_enter Try.func20, Try.ntmps20
  go_wp2_with fail
  refine (impl_IsValidMatrix _ _ _ rows _ hr hn HRN.out).mono ?_
  rintro e w' ⟨rfl, rfl⟩
  rw [HV.out]
  go_wp2_with fail
  refine (impl_ColumnsOf _ _ _ rows _ hr).mono ?_
  rintro e w' ⟨rfl, rfl⟩
  rw [HC.out]
  go_wp2_with (first | (at_make; refine wpList_mkS _ rfl _ _ _ rfl w.heap.size 30 i0 Try.underlying24 hi0 hz0 hz1 .i64 .i64 _ _ q rfl rfl rfl rfl (by rw [hz2]; omega) (by unfold maxLen; omega) (Nat.le_refl _) ?_; intro w1 hown1 hb1) | fail)
  go_loopw [15] (fun i wr => ∃ k : Nat, k ≤ q ∧ i = .int .i64 k ∧ OwnM 3 30 wr w.heap.size wr.heap.size (some ⟨w.heap.size, 0, none⟩) q q (halfR (Nc.trR rows) q k) ∧ Below w.heap.size w wr) (fun i _ => q - (intOf i).toNat)
  case atStart => exact ⟨0, Nat.zero_le _, rfl, by rw [halfR_zero]; exact OwnM.made hown1 (Nat.le_refl _), hb1⟩
  case round =>
    obtain ⟨k, hk, rfl, hown, hb⟩ := hrel
    have hsz := hb.size
    by_cases hlt : k < q
    · have HN := Lib.hid (halfR_next HR.out (Nc.trR_at (show k < Nc.cols rows by rw [HC.out]; exact hlt)))
      have HH := Lib.hid (halfR_hole HR.out hlt)
      obtain ⟨wo, hwo⟩ : ∃ wo : World, wo = wr := ⟨_, rfl⟩
      subst hwo
      go_wp2_with fail
      go_loopw [20] (fun jv wi => ∃ (j : Nat), j ≤ n ∧ jv = .int .i64 j ∧ OwnM 3 30 wi w.heap.size wi.heap.size (some ⟨w.heap.size, 0, none⟩) q q ((halfR (Nc.trR rows) q k).set k ((Nc.colOf rows k).take j)) ∧ Below w.heap.size w wi) (fun j _ => n - (intOf j).toNat)
      case atStart => exact ⟨0, Nat.zero_le _, rfl, by rw [List.take_zero, HH.out]; exact hown, hb⟩
      case round =>
        obtain ⟨j, hj, rfl, howi, hbi⟩ := hrel
        have hszi := hbi.size
        by_cases hjl : j < n
        · obtain ⟨b, o, Aj, nj, cj, xs, rfl, hbB, hx, hc, _, _, hrd⟩ := (hr.below hbi (Nat.le_refl _)).at_ hjl
          obtain ⟨hvx, hlx⟩ := HROW.out xs (List.mem_of_getElem? hx)
          obtain rfl : q = nj := by rw [← hrd.ilen, hlx, HC.out]
          obtain ⟨b2, o2, x, rfl, hbB2, hx2, hc2⟩ := hrd.int hlt
          obtain ⟨g, Ag, ng, cg, ys, hg, hglo, hghi, hys, hyl, hcell, hrow, hput⟩ := howi.rowApp (by decide) hlt (Nat.le_refl _) hszi
          obtain rfl : w.heap.size = g := by injection hg with hg; injection hg
          rw [halfR_at HR.out hlt] at hys
          simp only [Option.some.injEq] at hys
          subst hys
          obtain rfl : j = ng := by rw [← hyl, List.length_take, Nc.colOf_len, HL.out]; omega
          have HT := Lib.hid (take_next (Nc.colOf_at hx hx2))
          have HPUT := Lib.hid hput
          have HROWN := Lib.hid hrow
          have HBI := Lib.hid hbi
          have hcellA : (wr.alloc (.cells #[.int .i64 x] 3)).cell? ⟨w.heap.size, k, none⟩ = some (.slice Ag j cg) := (((Below.refl wr.heap.size wr).alloc (Nat.le_refl _) (.cells #[.int .i64 x] 3)).cell (p := ⟨w.heap.size, k, none⟩) hghi).trans hcell
          have k0 : (0 : Int) ≤ k := by omega
          have k1 : (k : Int) < q := by omega
          clear hput hrow hg hglo hghi hyl hx hx2 hvx hlx hrd howi hown hb hown1 hb1 hbi
          go_wp2_with fail
          go_region_law (first | (refine step_app1K wr (by rfl) _ _ _ (by rfl) w.heap.size 3 j0 _ 8 Try.underlying30 hj0 hy0 hy1 hy2 rfl Ag j cg _ (by rfl) HROWN.out (.int .i64 x) (by rfl) _ (by rfl) (by unfold maxLen; omega) (by omega) hszi ?_; intro A3 c3 w3 hap; obtain ⟨hcell3, hfz3, hb3, hset3⟩ := HPUT.out w3 A3 c3 ((Nc.colOf rows k).take j ++ [x]) (by simpa using hap); have HB3 := Lib.hid hb3; have HS3 := Lib.hid hset3; clear hap hb3 hset3))
          all_goals
            go_wp2
            go_roundw
            case rel => exact ⟨j + 1, by omega, by go_num, by rw [HT.out]; have hset3 := HS3.out; rw [List.set_set] at hset3; simpa using hset3, (HBI.out.trans HB3.out).setCell (p := ⟨w.heap.size, k, none⟩) (Nat.le_refl _) _⟩
            case measure => simp [intOf]; omega
        · obtain rfl : j = n := by omega
          go_wp2_with fail
          go_roundw
          case rel => exact ⟨k + 1, by omega, by go_num, by rw [← HN.out]; rw [List.take_of_length_le (by rw [Nc.colOf_len, HL.out]; exact Nat.le_refl _)] at howi; exact howi, hbi⟩
          case measure => simp [intOf]; omega
    · obtain rfl : k = q := by omega
      go_wp2_with fail
      go_ret
      rw [halfR_full _ _ HR.out] at hown
      exact ⟨_, _, _, rfl, by rw [HE.out]; exact hown, hb⟩

end Go.Proofs.Ytnobbojjhehdfaa
