/- Contracts of the marks on slices of slices. Conditions: stated with each theorem. -/
import Derived.Test.YtlcepceomlfnbaaMat2
namespace Go.Proofs.Ytlcepceomlfnbaa
open Go.RowKit

def Nc.cells (rows : List (List Int)) : Nat := (rows.map List.length).sum
/-- Marks, row by row. -/
def Nc.marksM : Int → List (List Int) → List (List Int)
  | _, [] => []
  | k, r :: rs => Nc.marks k r.length :: Nc.marksM (k + r.length) rs
theorem Nc.marksM_append (k : Int) (a : List (List Int)) (r : List Int) : Nc.marksM k (a ++ [r]) = Nc.marksM k a ++ [Nc.marks (k + Nc.cells a) r.length] := by
  induction a generalizing k with
  | nil => simp [Nc.marksM, Nc.cells]
  | cons x a ih =>
    simp only [List.cons_append, Nc.marksM, ih]
    have : k + (x.length : Int) + Nc.cells a = k + Nc.cells (x :: a) := by unfold Nc.cells; simp; omega
    rw [this]
theorem Nc.marksM_len (k : Int) (a : List (List Int)) : (Nc.marksM k a).length = a.length := by
  induction a generalizing k with
  | nil => rfl
  | cons x a ih => simp [Nc.marksM, ih]
theorem Nc.marksM_cells (k : Int) (a : List (List Int)) : Nc.cells (Nc.marksM k a) = Nc.cells a := by
  induction a generalizing k with
  | nil => rfl
  | cons x a ih =>
    have := ih (k + x.length)
    unfold Nc.cells at this ⊢
    simp only [Nc.marksM, List.map_cons, List.sum_cons, Nc.marks_len, this]
theorem Nc.marksM_marksM (k j : Int) (a : List (List Int)) : Nc.marksM k (Nc.marksM j a) = Nc.marksM k a := by
  induction a generalizing k j with
  | nil => rfl
  | cons x a ih => simp [Nc.marksM, Nc.marks_len, ih]
def halfK (rows : List (List Int)) (k0 : Int) (j : Nat) : List (List Int) := Nc.marksM k0 (rows.take j) ++ rows.drop j
theorem halfK_zero (rows : List (List Int)) (k0 : Int) : halfK rows k0 0 = rows := by simp [halfK, Nc.marksM]
theorem halfK_full {rows : List (List Int)} {k0 : Int} {n : Nat} (h : rows.length = n) : halfK rows k0 n = Nc.marksM k0 rows := by
  unfold halfK; rw [List.take_of_length_le (by omega), List.drop_of_length_le (by omega), List.append_nil]
theorem halfK_at {rows : List (List Int)} {k0 : Int} {j : Nat} {xs : List Int} (h : rows[j]? = some xs) : (halfK rows k0 j)[j]? = some xs := by
  have hj := (List.getElem?_eq_some_iff.1 h).1
  have hl : (Nc.marksM k0 (rows.take j)).length = j := by rw [Nc.marksM_len]; simp; omega
  unfold halfK
  rw [List.getElem?_append_right (by omega), hl, Nat.sub_self, List.getElem?_drop, Nat.add_zero, h]
theorem halfK_next {rows : List (List Int)} {k0 : Int} {j : Nat} {xs : List Int} (h : rows[j]? = some xs) :
    (halfK rows k0 j).set j (Nc.marks (k0 + Nc.cells (rows.take j)) xs.length) = halfK rows k0 (j + 1) := by
  have hj := (List.getElem?_eq_some_iff.1 h).1
  have hl : (Nc.marksM k0 (rows.take j)).length = j := by rw [Nc.marksM_len]; simp; omega
  unfold halfK
  rw [List.set_append, if_neg (by omega), hl, Nat.sub_self, List.drop_eq_getElem_cons hj, List.set_cons_zero, take_next h, Nc.marksM_append]
  simp
theorem Nc.cells_next {rows : List (List Int)} {j : Nat} {xs : List Int} (h : rows[j]? = some xs) : Nc.cells (rows.take (j + 1)) = Nc.cells (rows.take j) + xs.length := sum_next h
theorem Nc.cells_take_le (rows : List (List Int)) (j : Nat) : Nc.cells (rows.take j) ≤ Nc.cells rows := sum_take_le rows j

set_option maxHeartbeats 1000000 in
theorem laws_markIntSS (A : Option Addr) (n c : Nat) (rows : List (List Int)) (k0 : Int) (lo hi : Nat) (w : World) (ho : OwnM 3 22 w lo hi A n c rows) (hk0 : 0 ≤ k0) (hk1 : k0 ≤ 100000000000) (hn : n ≤ 1099511627776) (hc : Nc.cells rows ≤ 1048576) :
    Calls Try.prog 25 #[.slice A n c, .int .i64 k0] w fun e w' => e = .returned (.int .i64 (k0 + Nc.cells rows)) ∧ OwnM 3 22 w' lo hi A n c (Nc.marksM k0 rows) ∧ WroteIn lo hi w w' := by
  have HL := Lib.hid ho.len
  have HC := Lib.hid (Nc.cells_take_le rows)
  obtain ⟨T, hT⟩ : ∃ T, T = Nc.cells rows := ⟨_, rfl⟩
  rw [← hT] at hc HC ⊢
  have HT := Lib.hid hT
  clear hT
  go_enter Try.func25, Try.ntmps25
  go_wp2
  go_loopw [1, 5] (fun q i wr => ∃ j s : Nat, j ≤ n ∧ i = .int .i64 j ∧ q = .int .i64 (k0 + s) ∧ s ≤ T ∧ Hid (s = Nc.cells (rows.take j)) ∧ OwnM 3 22 wr lo hi A n c (halfK rows k0 j) ∧ WroteIn lo hi w wr) (fun _ i _ => n - (intOf i).toNat)
  case atStart => exact ⟨0, 0, Nat.zero_le _, rfl, by simp, by omega, by simp [Hid, Nc.cells], by rw [halfK_zero]; exact ho, WroteIn.refl _ _ _⟩
  case round =>
    obtain ⟨j, s, hj, rfl, rfl, hsT, hs, hw, hwr⟩ := hrel
    by_cases hlt : j < n
    · obtain ⟨g, Aj, nj, cj, ys, rfl, hy, hcell, hrow, hupd⟩ := hw.rowAt (by decide) hlt
      have hx : rows[j]? = some ys := by
        obtain ⟨xs, hx⟩ : ∃ xs, rows[j]? = some xs := ⟨_, List.getElem?_eq_getElem (by rw [HL.out]; exact hlt)⟩
        rw [halfK_at hx] at hy; rw [hx, hy]
      have HN := Lib.hid (halfK_next (k0 := k0) hx)
      have HCN := Lib.hid (Nc.cells_next hx)
      have hnj : Hid (ys.length = nj) := Lib.hid (by have := hrow.len; simpa using this)
      have hsT2 : s + nj ≤ T := by have := HC.out (j + 1); rw [HCN.out, ← hs.out, hnj.out] at this; exact this
      have hs2 : Hid (s + nj = Nc.cells (rows.take (j + 1))) := Lib.hid (by rw [HCN.out, ← hs.out, hnj.out])
      have hblk := Lib.hid hrow.blk
      have HUP := Lib.hid hupd
      clear hx hy hw hupd
      go_wp2_with fail
      refine (laws_markIntS _ _ _ _ _ _ _ _ hrow (by omega) (by omega) (by omega)).mono ?_
      rintro e w2 ⟨rfl, hrow2, hg2⟩
      have hw2 := HUP.out w2 _ hrow2 hg2
      rw [← hnj.out, hs.out, HN.out] at hw2
      have hwr2 := hwr.trans (WroteIn.of_grown hg2 hblk.out)
      clear hrow hrow2 hg2 hwr
      go_wp2_with fail
      go_roundw
      case rel => exact ⟨j + 1, s + nj, by omega, by go_num, by go_num, hsT2, hs2, hw2, hwr2⟩
      case measure => simp [intOf]; omega
    · obtain rfl : j = n := by omega
      have HE : Hid (s = T) := Lib.hid (by rw [hs.out, HT.out, List.take_of_length_le (by rw [HL.out]; exact Nat.le_refl _)])
      go_wp2
      go_ret
      rw [halfK_full HL.out] at hw
      exact ⟨ret_i64 (by rw [HE.out]), hw, hwr⟩

theorem marksM_at {rows : List (List Int)} {k0 : Int} {j : Nat} {xs : List Int} (h : rows[j]? = some xs) : (Nc.marksM k0 rows)[j]? = some (Nc.marks (k0 + Nc.cells (rows.take j)) xs.length) := by
  have hj := (List.getElem?_eq_some_iff.1 h).1
  have e : rows = rows.take j ++ [xs] ++ rows.drop (j + 1) := by
    rw [← take_next h, List.take_append_drop]
  have hm : ∀ (a b : List (List Int)) (k : Int), Nc.marksM k (a ++ b) = Nc.marksM k a ++ Nc.marksM (k + Nc.cells a) b := by
    intro a
    induction a with
    | nil => intro b k; simp [Nc.marksM, Nc.cells]
    | cons x a ih =>
      intro b k
      simp only [List.cons_append, Nc.marksM, ih]
      have : k + (x.length : Int) + Nc.cells a = k + Nc.cells (x :: a) := by unfold Nc.cells; simp; omega
      rw [this]
  have hl : (rows.take j).length = j := by simp; omega
  have e2 : Nc.marksM k0 rows = Nc.marksM k0 (rows.take j) ++ [Nc.marks (k0 + Nc.cells (rows.take j)) xs.length] ++ Nc.marksM (k0 + Nc.cells (rows.take j ++ [xs])) (rows.drop (j + 1)) := by
    rw [← Nc.marksM_append, ← hm, ← e]
  rw [e2, List.append_assoc, List.getElem?_append_right (by rw [Nc.marksM_len]; omega), Nc.marksM_len, hl, Nat.sub_self]
  rfl

set_option maxHeartbeats 1000000 in
theorem laws_heldIntSS (A : Option Addr) (n c : Nat) (rows : List (List Int)) (k0 : Int) (w : World) (hr : RdM w w.heap.size A n (Nc.marksM k0 rows)) (hk0 : 0 ≤ k0) (hk1 : k0 ≤ 100000000000) (hn : n ≤ 1099511627776) (hc : Nc.cells rows ≤ 1048576) :
    Calls Try.prog 26 #[.slice A n c, .int .i64 k0] w fun e w' => e = .returned (.int .i64 (k0 + Nc.cells rows)) ∧ w = w' := by
  have HL := Lib.hid (show rows.length = n by have := hr.len; rwa [Nc.marksM_len] at this)
  have HC := Lib.hid (Nc.cells_take_le rows)
  obtain ⟨T, hT⟩ : ∃ T, T = Nc.cells rows := ⟨_, rfl⟩
  rw [← hT] at hc HC ⊢
  have HT := Lib.hid hT
  clear hT
  go_enter Try.func26, Try.ntmps26
  go_wp2
  go_loop [1, 5] (fun q i => ∃ j s : Nat, j ≤ n ∧ i = .int .i64 j ∧ q = .int .i64 (k0 + s) ∧ s ≤ T ∧ Hid (s = Nc.cells (rows.take j))) (fun _ i => n - (intOf i).toNat)
  case atStart => exact ⟨0, 0, Nat.zero_le _, rfl, by simp, by omega, by simp [Hid, Nc.cells]⟩
  case round =>
    obtain ⟨j, s, hj, rfl, rfl, hsT, hs⟩ := hrel
    by_cases hlt : j < n
    · obtain ⟨b, o, Aj, nj, cj, ys, rfl, hbB, hy, hcell, hnjc, hcj, hrd⟩ := hr.at_ hlt
      obtain ⟨xs, hx⟩ : ∃ xs, rows[j]? = some xs := ⟨_, List.getElem?_eq_getElem (by rw [HL.out]; exact hlt)⟩
      have hym : ys = Nc.marks (k0 + s) xs.length := by
        rw [marksM_at hx] at hy
        injection hy with hy
        rw [← hy, hs.out]
      have hnj : xs.length = nj := by rw [← hrd.ilen, hym, Nc.marks_len]
      have HCN := Lib.hid (Nc.cells_next hx)
      have hsT2 : s + nj ≤ T := by have := HC.out (j + 1); rw [HCN.out, ← hs.out, hnj] at this; exact this
      have hs2 : Hid (s + nj = Nc.cells (rows.take (j + 1))) := Lib.hid (by rw [HCN.out, ← hs.out, hnj])
      rw [hym, hnj] at hrd
      clear hx hy hym hnj
      go_wp2_with fail
      refine (laws_heldIntS _ _ _ _ _ hrd (by omega) (by omega) (by omega)).mono ?_
      rintro e w' ⟨rfl, rfl⟩
      go_wp2_with fail
      go_round
      case rel => exact ⟨j + 1, s + nj, by omega, by go_num, by go_num, hsT2, hs2⟩
      case measure => simp [intOf]; omega
    · obtain rfl : j = n := by omega
      have HE : Hid (s = T) := Lib.hid (by rw [hs.out, HT.out, List.take_of_length_le (by rw [HL.out]; exact Nat.le_refl _)])
      go_wp2
      go_ret
      exact ⟨ret_i64 (by rw [HE.out]), rfl⟩

end Go.Proofs.Ytlcepceomlfnbaa
