/- Contracts of the sizes and copies of slices of slices, of columns and dot products. Conditions: stated with each theorem. -/
import Derived.Test.YtlcepceomlfnbaaMat
namespace Go.Proofs.Ytlcepceomlfnbaa
open Go.RowKit

/-- How many rows and numbers a matrix holds. -/
def Nc.total (rows : List (List Int)) : Nat := rows.length + (rows.map List.length).sum
def Nc.szR (rows : List (List Int)) (left : Int) : Int := if left < Nc.total rows then -1 else left - Nc.total rows
def Nc.cols : List (List Int) → Nat
  | [] => 0
  | r :: _ => r.length
theorem sum_next {rows : List (List Int)} {k : Nat} {xs : List Int} (h : rows[k]? = some xs) : ((rows.take (k + 1)).map List.length).sum = ((rows.take k).map List.length).sum + xs.length := by
  rw [take_next h, List.map_append, List.sum_append]; simp
theorem sum_take_le (rows : List (List Int)) (k : Nat) : ((rows.take k).map List.length).sum ≤ (rows.map List.length).sum := by
  have : rows = rows.take k ++ rows.drop k := (List.take_append_drop k rows).symm
  rw [this, List.map_append, List.sum_append]
  have h2 : ((rows.take k ++ rows.drop k).take k) = rows.take k := by rw [List.take_append_drop]
  rw [h2]; omega
theorem le_sum_of_mem (l : List Nat) (x : Nat) (h : x ∈ l) : x ≤ l.sum := by
  induction l with
  | nil => cases h
  | cons y l ih =>
    rw [List.sum_cons]
    rcases List.mem_cons.1 h with rfl | h
    · omega
    · have := ih h; omega
theorem Nc.total_row {rows : List (List Int)} {xs : List Int} (h : xs ∈ rows) : xs.length ≤ Nc.total rows := by
  unfold Nc.total
  have := le_sum_of_mem (rows.map List.length) xs.length (List.mem_map_of_mem h)
  omega

theorem laws_szIntS (A : Option Addr) (n c : Nat) (left : Int) (w : World) (h0 : 0 ≤ left) (h1 : left ≤ 1099511627776) (hn : n ≤ 9223372036854775807) :
    Calls Try.prog 55 #[.slice A n c, .int .i64 left] w fun e w' => e = .returned (.int .i64 (if left < n then -1 else left - n)) ∧ w = w' := by
  by_cases h : left < n
  · rw [if_pos h]
    go_enter Try.func55, Try.ntmps55
    go_wp2
    go_ret
    exact ⟨rfl, rfl⟩
  · rw [if_neg h]
    go_enter Try.func55, Try.ntmps55
    go_wp2
    go_ret
    exact ⟨rfl, rfl⟩

set_option maxHeartbeats 400000 in
theorem laws_szIntSS (A : Option Addr) (n c : Nat) (left : Int) (rows : List (List Int)) (w : World) (hr : RdM w w.heap.size A n rows) (h0 : 0 ≤ left) (h1 : left ≤ 1099511627776) (hn : n ≤ 9223372036854775807) :
    Calls Try.prog 27 #[.slice A n c, .int .i64 left] w fun e w' => e = .returned (.int .i64 (Nc.szR rows left)) ∧ w = w' := by
  have HL := Lib.hid hr.len
  by_cases hbig : left < n
  · have HS := Lib.hid (show Nc.szR rows left = -1 by unfold Nc.szR Nc.total; rw [if_pos (by have := HL.out; omega)])
    go_enter Try.func27, Try.ntmps27
    go_wp2
    go_ret
    exact ⟨ret_i64 HS.out.symm, rfl⟩
  · go_enter Try.func27, Try.ntmps27
    go_wp2
    go_loop [1, 5] (fun l i => ∃ (k : Nat) (L : Int), k ≤ n ∧ i = .int .i64 k ∧ l = .int .i64 L ∧ 0 ≤ L ∧ L ≤ left ∧ Hid (L = left - n - ((rows.take k).map List.length).sum)) (fun _ i => n - (intOf i).toNat)
    case atStart => exact ⟨0, left - n, Nat.zero_le _, rfl, rfl, by omega, by omega, by simp [Hid]⟩
    case round =>
      obtain ⟨k, L, hk, rfl, rfl, hL0, hL1, hL⟩ := hrel
      by_cases hlt : k < n
      · obtain ⟨b, o, Aj, nj, cj, xs, rfl, hbB, hx, hc, hnj, hcj, hrd⟩ := hr.at_ hlt
        have HN := Lib.hid (sum_next hx)
        have HE := Lib.hid hrd.ilen
        have hnj2 : nj ≤ 9223372036854775807 := by omega
        by_cases hneg : L < nj
        · have HS := Lib.hid (show Nc.szR rows left = -1 by
            unfold Nc.szR Nc.total
            have e1 := sum_take_le rows (k + 1)
            rw [HN.out, HE.out] at e1
            have e2 := hL.out
            rw [if_pos (by have := HL.out; omega)])
          clear hx hrd
          go_wp2_with fail
          refine (laws_szIntS _ _ _ _ _ hL0 (by omega) hnj2).mono ?_
          rintro e w' ⟨rfl, rfl⟩
          rw [if_pos hneg]
          go_wp2_with fail
          go_ret
          exact ⟨ret_i64 HS.out.symm, rfl⟩
        · have HL2 : Hid (L - nj = left - n - ((rows.take (k + 1)).map List.length).sum) := Lib.hid (by rw [HN.out, HE.out, hL.out]; omega)
          clear hx hrd
          go_wp2_with fail
          refine (laws_szIntS _ _ _ _ _ hL0 (by omega) hnj2).mono ?_
          rintro e w' ⟨rfl, rfl⟩
          rw [if_neg (show ¬ L < (nj : Int) by omega)]
          go_wp2_with fail
          go_round
          case rel => exact ⟨k + 1, L - nj, by omega, by go_num, rfl, by omega, by omega, HL2⟩
          case measure => simp [intOf]; omega
      · obtain rfl : k = n := by omega
        have HS := Lib.hid (show Nc.szR rows left = L by
          unfold Nc.szR Nc.total
          have e2 := hL.out
          rw [List.take_of_length_le (by rw [HL.out]; exact Nat.le_refl _)] at e2
          rw [if_neg (by have := HL.out; omega)]
          have := HL.out
          omega)
        go_wp2
        go_ret
        exact ⟨ret_i64 HS.out.symm, rfl⟩

/-- The call hands back a slice of slices in new memory. -/
def FreshM (eI eS : TypeId) (w : World) (rows : List (List Int)) (r : Ending) (w' : World) : Prop :=
  ∃ A n c, r = .returned (.slice A n c) ∧ OwnM eI eS w' w.heap.size w'.heap.size A n c rows ∧ Below w.heap.size w w'
theorem Try.info_row : (Try.prog.info? 22).map (fun i => (i.zero, i.size, i.bytes)) = some (some (.slice none 0 0), 1, 24) := by kernel_rfl
set_option maxHeartbeats 1000000 in
theorem laws_toIntSS (A : Option Addr) (n c : Nat) (rows : List (List Int)) (w : World) (hr : RdM w w.heap.size A n rows) (hn : n ≤ 1048576) (hx : ∀ xs ∈ rows, xs.length ≤ 1048576) :
    Calls Try.prog 29 #[.slice A n c] w (FreshM 3 22 w rows) := by
  obtain ⟨i0, hi0, hz0, hz1, hz2⟩ := info_parts Try.info_row
  have HL := Lib.hid hr.len
  have HX := Lib.hid hx
  clear hx
  go_enter Try.func29, Try.ntmps29
  go_wp2_with (first | (at_make; refine wpList_mkS _ rfl _ _ _ rfl w.heap.size 22 i0 Try.underlying30 hi0 hz0 hz1 .i64 .i64 _ _ n rfl rfl rfl rfl (by rw [hz2]; omega) (by unfold maxLen; omega) (Nat.le_refl _) ?_; intro w1 hown1 hb1) | fail)
  go_loopw [4] (fun i wr => ∃ k : Nat, k ≤ n ∧ i = .int .i64 k ∧ OwnM 3 22 wr w.heap.size wr.heap.size (some ⟨w.heap.size, 0, none⟩) n n (halfR rows n k) ∧ Below w.heap.size w wr)
    (fun i _ => n - (intOf i).toNat)
  case atStart => exact ⟨0, Nat.zero_le _, rfl, by rw [halfR_zero]; exact OwnM.made hown1 (Nat.le_refl _), hb1⟩
  case round =>
    obtain ⟨k, hk, rfl, hown, hb⟩ := hrel
    have hsz := hb.size
    by_cases hlt : k < n
    · obtain ⟨b, o, Aj, nj, cj, xs, rfl, hbB, hx, hc, hnj, hcj, hrd⟩ := (hr.below hb (Nat.le_refl _)).at_ hlt
      have hnj2 : nj ≤ 1048576 := by rw [← hrd.ilen]; exact HX.out xs (List.mem_of_getElem? hx)
      have HN := Lib.hid (halfR_next HL.out hx)
      clear hx
      go_wp2_with fail
      refine (laws_toIntS _ _ _ xs _ (hrd.more hsz) hnj2).mono ?_
      rintro e w2 ⟨A2, n2, c2, rfl, ho2, hb2⟩
      have hs2 := hb2.size
      have hown2 := hown.below hb2 (Nat.le_refl _)
      obtain ⟨g, v, hg, hglo, hghi, hcell, hfz⟩ := hown2.outer hlt
      obtain rfl : w.heap.size = g := by injection hg with hg; injection hg
      have hset := hown2.setRow (j := k) (r := (A2, n2, c2)) (by decide) ho2 hsz (Nat.le_refl _) hs2
      rw [HN.out] at hset
      have hb3 := (hb.trans (hb2.mono hsz)).setCell (p := ⟨w.heap.size, k, none⟩) (Nat.le_refl _) (slv (A2, n2, c2))
      clear hg hglo hghi hown hown2 ho2 hb2 hrd hc
      unfold slv at hset hb3
      go_wp2_with fail
      go_roundw
      case rel => exact ⟨k + 1, by omega, by go_num, by simpa using hset, hb3⟩
      case measure => simp [intOf]; omega
    · obtain rfl : k = n := by omega
      go_wp2
      go_ret
      rw [halfR_full _ _ HL.out] at hown
      exact ⟨_, _, _, rfl, hown, hb⟩

theorem impl_ColumnsOf (A : Option Addr) (n c : Nat) (rows : List (List Int)) (w : World) (hr : RdM w w.heap.size A n rows) :
    Calls Try.prog 64 #[.slice A n c] w fun e w' => e = .returned (.int .i64 (Nc.cols rows)) ∧ w = w' := by
  have HL := Lib.hid hr.len
  by_cases h0 : n = 0
  · subst h0
    have HE := Lib.hid (show Nc.cols rows = 0 by rw [List.eq_nil_of_length_eq_zero HL.out]; rfl)
    go_enter Try.func64, Try.ntmps64
    go_wp2
    go_ret
    exact ⟨ret_i64 (by rw [HE.out]; rfl), rfl⟩
  · obtain ⟨b, o, Aj, nj, cj, xs, rfl, hbB, hx, hc, hnj, hcj, hrd⟩ := hr.at_ (show 0 < n by omega)
    have HE := Lib.hid (show Nc.cols rows = nj by
      cases rows with
      | nil => simp at hx
      | cons r rs => simp at hx; subst hx; exact hrd.ilen)
    have hq : ((n : Int) == 0) = false := by simp; omega
    have hp : 0 < n := by omega
    rw [Nat.add_zero] at hc
    clear hx hrd h0
    go_enter Try.func64, Try.ntmps64
    go_wp2
    go_ret
    exact ⟨ret_i64 (by rw [HE.out]), rfl⟩

theorem spec_ColumnsOf (A : Option Addr) (n c : Nat) (rows : List (List Int)) (w : World) (hr : RdM w w.heap.size A n rows) :
    Calls Try.prog 63 #[.slice A n c] w fun e w' => e = .returned (.int .i64 (Nc.cols rows)) ∧ w = w' := by
  have HL := Lib.hid hr.len
  by_cases h0 : n = 0
  · subst h0
    have HE := Lib.hid (show Nc.cols rows = 0 by rw [List.eq_nil_of_length_eq_zero HL.out]; rfl)
    go_enter Try.func63, Try.ntmps63
    go_wp2
    go_ret
    exact ⟨ret_i64 (by rw [HE.out]; rfl), rfl⟩
  · obtain ⟨b, o, Aj, nj, cj, xs, rfl, hbB, hx, hc, hnj, hcj, hrd⟩ := hr.at_ (show 0 < n by omega)
    have HE := Lib.hid (show Nc.cols rows = nj by
      cases rows with
      | nil => simp at hx
      | cons r rs => simp at hx; subst hx; exact hrd.ilen)
    have hq : ((n : Int) == 0) = false := by simp; omega
    have hp : 0 < n := by omega
    rw [Nat.add_zero] at hc
    clear hx hrd h0
    go_enter Try.func63, Try.ntmps63
    go_wp2
    go_ret
    exact ⟨ret_i64 (by rw [HE.out]), rfl⟩

end Go.Proofs.Ytlcepceomlfnbaa
