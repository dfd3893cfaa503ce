/- Contracts of the combinations of vectors. Conditions: stated with each theorem. -/
import Derived.Test.YtnobbojjhehdfaaMtx2
import Derived.Test.YtnobbojjhehdfaaLin
namespace Go.Proofs.Ytnobbojjhehdfaa
open Go.RowKit
set_option maxRecDepth 100000
attribute [local go_sem ↓] Go.wp_at_zero Go.wp_at_succ

/-- The combination of the first k rows. -/
def Nc.combTo (rows : List (List Int)) (cs : List Int) (n k : Nat) : List Int := ((rows.take k).zip (cs.take k)).foldl (fun acc rc => Nc.addR acc rc.1 rc.2) (List.replicate n 0)
theorem Nc.combTo_next {rows : List (List Int)} {cs : List Int} {n k : Nat} {r : List Int} {c : Int} (hr : rows[k]? = some r) (hc : cs[k]? = some c) : Nc.combTo rows cs n (k + 1) = Nc.addR (Nc.combTo rows cs n k) r c := by
  have h1 := (List.getElem?_eq_some_iff.1 hr).1
  have h2 := (List.getElem?_eq_some_iff.1 hc).1
  unfold Nc.combTo
  rw [take_next hr, take_next hc, List.zip_append (by simp; omega), List.foldl_append]
  rfl
theorem Nc.combTo_len {rows : List (List Int)} {cs : List Int} {n : Nat} (h : ∀ r ∈ rows, r.length = n) (k : Nat) (hk : k ≤ rows.length) (hc : k ≤ cs.length) : (Nc.combTo rows cs n k).length = n := by
  induction k with
  | zero => simp [Nc.combTo]
  | succ k ih =>
    have hr : rows[k]? = some rows[k] := List.getElem?_eq_getElem (by omega)
    have hc' : cs[k]? = some cs[k] := List.getElem?_eq_getElem (by omega)
    rw [Nc.combTo_next hr hc', Nc.addR_len, ih (by omega) (by omega), h _ (List.mem_of_getElem? hr)]
    omega
theorem Nc.combTo_el (rows : List (List Int)) (cs : List Int) (n k : Nat) : ∀ x ∈ Nc.combTo rows cs n k, 0 ≤ x ∧ x ≤ 1018 := by
  unfold Nc.combTo
  have h : ∀ (l : List (List Int × Int)) (acc : List Int), (∀ x ∈ acc, 0 ≤ x ∧ x ≤ 1018) → ∀ x ∈ l.foldl (fun acc rc => Nc.addR acc rc.1 rc.2) acc, 0 ≤ x ∧ x ≤ 1018 := by
    intro l
    induction l with
    | nil => intro acc ha; exact ha
    | cons rc l ih => intro acc _; exact ih _ (Nc.addR_el _ _ _)
  exact h _ _ (fun x hx => by rw [List.eq_of_mem_replicate hx]; omega)
def Nc.combB (rows : List (List Int)) (cs : List Int) : Bool := decide (rows.length ≠ 0) && decide (rows.length = cs.length) && Nc.vecB cs && rows.all (Nc.rowB (Nc.cols rows))
def Nc.combL (rows : List (List Int)) (cs : List Int) : List Int := if Nc.combB rows cs then Nc.combTo rows cs (Nc.cols rows) rows.length else []
theorem Nc.combB_row {rows : List (List Int)} {cs : List Int} (h : Nc.combB rows cs = true) : ∀ r ∈ rows, Nc.vecB r = true ∧ r.length = Nc.cols rows := by
  intro r hr
  simp only [Nc.combB, Bool.and_eq_true, List.all_eq_true] at h
  have := h.2 r hr
  simpa [Nc.rowB] using this
theorem Nc.cols_le {rows : List (List Int)} {b : Nat} (h : ∀ r ∈ rows, r.length ≤ b) : Nc.cols rows ≤ b := by
  cases rows with
  | nil => exact Nat.zero_le _
  | cons r rs => exact h r (by simp)
theorem Nc.combL_len (rows : List (List Int)) (cs : List Int) : (Nc.combL rows cs).length ≤ 40 := by
  unfold Nc.combL
  split
  · rename_i h
    have hrow := Nc.combB_row h
    have h' := h
    simp only [Nc.combB, Bool.and_eq_true, decide_eq_true_eq] at h'
    rw [Nc.combTo_len (fun r hr => (hrow r hr).2) _ (Nat.le_refl _) (by omega)]
    exact Nc.cols_le (fun r hr => Nc.vecB_len (hrow r hr).1)
  · simp

set_option maxHeartbeats 1000000 in
theorem impl_combine (A : Option Addr) (n c : Nat) (A2 : Option Addr) (c2 : Nat) (rows : List (List Int)) (cs : List Int) (w : World) (hr : RdM w w.heap.size A n rows) (hv : Rd w w.heap.size A2 n (cs.map (.int .i64)))
    (h0 : 0 < n) (hn : n ≤ 40) (hrow : ∀ r ∈ rows, Nc.vecB r = true ∧ r.length = Nc.cols rows) (hcs : ∀ x ∈ cs, 0 ≤ x ∧ x ≤ 1018) :
    Calls Try.prog 111 #[.slice A n c, .slice A2 n c2] w (Fresh 3 w ((Nc.combTo rows cs (Nc.cols rows) rows.length).map (.int .i64))) := by
  obtain ⟨i0, hi0, hz0, hz1, hz2⟩ := info_parts Try.info_int
  have HL := Lib.hid hr.len
  have HY := Lib.hid hv.ilen
  have HROW := Lib.hid hrow
  have HCS := Lib.hid hcs
  obtain ⟨q, hq⟩ : ∃ q, q = Nc.cols rows := ⟨_, rfl⟩
  have hq40 : q ≤ 40 := by rw [hq]; exact Nc.cols_le (fun r hr => Nc.vecB_len (hrow r hr).1)
  rw [← hq]
  have HQ := Lib.hid hq
  clear hrow hcs hq
  obtain ⟨b0, o0, A0, n0, c0, xs0, rfl, _, hx0, hc0, _, _, hrd0⟩ := hr.at_ h0
  obtain rfl : q = n0 := by rw [HQ.out, cols_at hx0, hrd0.ilen]
  rw [Nat.add_zero] at hc0
  clear hx0 hrd0
  go_enter Try.func111, Try.ntmps111
  go_wp2_with (first | (at_make; refine wpList_mk _ rfl _ _ _ rfl w.heap.size 3 i0 .i64 Try.underlying30 hi0 hz0 hz1 .i64 .i64 _ _ q rfl rfl rfl rfl (by rw [hz2]; omega) (by unfold maxLen; omega) (Nat.le_refl _) ?_; intro w1 hown1 hb1) | fail)
  go_loopw [15] (fun i wr => ∃ j : Nat, j ≤ n ∧ i = .int .i64 j ∧ Own wr w.heap.size wr.heap.size 3 (some ⟨w.heap.size, 0, none⟩) q q ((Nc.combTo rows cs q j).map (.int .i64)) ∧ Below w.heap.size w wr) (fun i _ => n - (intOf i).toNat)
  case atStart => exact ⟨0, Nat.zero_le _, rfl, by have := Own.of hown1 (Nat.le_refl _); rw [rd_of_replicate] at this; exact this, hb1⟩
  case round =>
    obtain ⟨j, hj, rfl, hown, hb⟩ := hrel
    have hsz := hb.size
    by_cases hlt : j < n
    · obtain ⟨b, o, Aj, nj, cj, x, e1, hbB, hx, hc, _, _, hrd⟩ := (hr.below hb (Nat.le_refl _)).at_ hlt
      injection e1 with e1
      injection e1 with e1 e2
      subst e1 e2
      obtain ⟨b3, o3, k, rfl, hbB3, hk, hck⟩ := (hv.below hb (Nat.le_refl _)).int hlt
      obtain ⟨hvx, hlx⟩ := HROW.out x (List.mem_of_getElem? hx)
      obtain ⟨k0, k1⟩ := HCS.out k (List.mem_of_getElem? hk)
      obtain rfl : nj = q := by rw [← hrd.ilen, hlx, ← HQ.out]
      have HN := Lib.hid (Nc.combTo_next (n := nj) hx hk)
      have HBLK := Lib.hid hown.blk
      have HX := Lib.hid (Nc.vecB_el hvx)
      clear hx hk hvx hlx
      go_wp2_with fail
      refine (impl_addScaled _ _ _ _ _ k _ x _ _ _ hown hrd hsz (Nc.combTo_el _ _ _ _) HX.out k0 k1 (by omega)).mono ?_
      rintro e w2 ⟨rfl, ho2, hg2⟩
      have hs2 := hg2.size
      have hb2 := hb.grown hg2 hsz (fun g hg => (HBLK.out g hg).1)
      rw [← HN.out] at ho2
      clear hg2 hown
      go_wp2_with fail
      go_roundw
      case rel => exact ⟨j + 1, by omega, by go_num, ho2.more (Nat.le_refl _) hs2, hb2⟩
      case measure => simp [intOf]; omega
    · obtain rfl : j = n := by omega
      go_wp2_with fail
      go_ret
      exact ⟨_, _, _, rfl, by rw [HL.out]; exact hown, hb⟩

set_option maxHeartbeats 1000000 in
theorem impl_Combine (A : Option Addr) (n c : Nat) (A2 : Option Addr) (m c2 : Nat) (rows : List (List Int)) (cs : List Int) (w : World) (hr : RdM w w.heap.size A n rows) (hv : Rd w w.heap.size A2 m (cs.map (.int .i64))) (hn : n ≤ 9223372036854775806) (hm : m ≤ 9223372036854775806) (hrn : ∀ xs ∈ rows, xs.length ≤ 9223372036854775806) :
    Calls Try.prog 59 #[.slice A n c, .slice A2 m c2] w (Fresh 3 w ((Nc.combL rows cs).map (.int .i64))) := by
  have HL := Lib.hid hr.len
  have HY := Lib.hid hv.ilen
  have HRN := Lib.hid hrn
  clear hrn
  by_cases h0 : n = 0
  · have HE := Lib.hid (show Nc.combL rows cs = [] by unfold Nc.combL Nc.combB; rw [HL.out, h0]; simp)
    have hq0 : ((n : Int) == 0) = true := by simp [h0]
    clear h0
    go_enter Try.func59, Try.ntmps59
    go_wp2_with fail
    go_ret
    exact ⟨_, _, _, rfl, by rw [HE.out]; exact Own.of (World.ownsRow_nil _ _ _ _) (Nat.le_refl _), Below.refl _ _⟩
  have hq0 : ((n : Int) == 0) = false := by simp; omega
  by_cases h1 : n = m
  rotate_left
  · have HE := Lib.hid (show Nc.combL rows cs = [] by unfold Nc.combL Nc.combB; rw [HL.out, HY.out]; simp [h1])
    have hq1 : ((n : Int) != m) = true := by simp; omega
    go_enter Try.func59, Try.ntmps59
    go_wp2_with fail
    go_ret
    exact ⟨_, _, _, rfl, by rw [HE.out]; exact Own.of (World.ownsRow_nil _ _ _ _) (Nat.le_refl _), Below.refl _ _⟩
  subst h1
  have hq1 : ((n : Int) != n) = false := by simp
  cases h2 : Nc.vecB cs
  · have HE := Lib.hid (show Nc.combL rows cs = [] by unfold Nc.combL Nc.combB; rw [h2]; simp)
    have HV := Lib.hid h2
    clear h2
    go_enter Try.func59, Try.ntmps59
    go_wp2_with fail
    refine (impl_IsValidVector _ _ _ cs _ hv hm).mono ?_
    rintro e w' ⟨rfl, rfl⟩
    rw [HV.out]
    go_wp2_with fail
    go_ret
    exact ⟨_, _, _, rfl, by rw [HE.out]; exact Own.of (World.ownsRow_nil _ _ _ _) (Nat.le_refl _), Below.refl _ _⟩
  have HV := Lib.hid h2
  have hn40 : n ≤ 40 := by rw [← HY.out]; exact Nc.vecB_len h2
  have HNO := Lib.hid (show rows.all (Nc.rowB (Nc.cols rows)) = false → Nc.combL rows cs = [] by intro h; unfold Nc.combL Nc.combB; rw [h]; simp)
  have HYES := Lib.hid (show rows.all (Nc.rowB (Nc.cols rows)) = true → Nc.combL rows cs = Nc.combTo rows cs (Nc.cols rows) rows.length by intro h; unfold Nc.combL Nc.combB; rw [h, h2, HL.out, HY.out]; simp [h0])
  have hp : 0 < n := by omega
  clear h0 h2
  go_enter Try.func59, Try.ntmps59
  go_wp2_with fail
  refine (impl_IsValidVector _ _ _ cs _ hv hm).mono ?_
  rintro e w' ⟨rfl, rfl⟩
  rw [HV.out]
  go_wp2_with fail
  go_loop [24] (fun i => ∃ k : Nat, k ≤ n ∧ i = .int .i64 k ∧ MatIs rows k) (fun i => n - (intOf i).toNat)
  case atStart => exact ⟨0, Nat.zero_le _, rfl, rfl⟩
  case round =>
    obtain ⟨k, hk, rfl, hI⟩ := hrel
    by_cases hlt : k < n
    · obtain ⟨b0, o0, A0, n0, c0, xs0, hA0, _, hx0, hc0, _, _, hrd0⟩ := hr.at_ hp
      obtain ⟨b, o, Aj, nj, cj, xs, rfl, hbB, hx, hc, _, _, hrd⟩ := hr.at_ hlt
      injection hA0 with hA0
      injection hA0 with e1 e2
      subst e1 e2
      rw [Nat.add_zero] at hc0
      have HC := Lib.hid (show Nc.cols rows = n0 by rw [cols_at hx0, hrd0.ilen])
      have HX := Lib.hid hrd.ilen
      have hnj : nj ≤ 9223372036854775806 := by rw [← hrd.ilen]; exact HRN.out xs (List.mem_of_getElem? hx)
      clear hx0 hrd0
      cases hvx : Nc.vecB xs
      · have HE := Lib.hid (HNO.out (List.all_eq_false.2 ⟨xs, List.mem_of_getElem? hx, by simp [Nc.rowB, hvx]⟩))
        have HVX := Lib.hid hvx
        clear hx hI hvx
        go_wp2_with fail
        refine (impl_IsValidVector _ _ _ xs _ hrd hnj).mono ?_
        rintro e w' ⟨rfl, rfl⟩
        rw [HVX.out]
        go_wp2_with fail
        go_ret
        exact ⟨_, _, _, rfl, by rw [HE.out]; exact Own.of (World.ownsRow_nil _ _ _ _) (Nat.le_refl _), Below.refl _ _⟩
      · by_cases he : nj = n0
        · have HN := Lib.hid (mat_next hI hx hvx (by rw [HX.out, HC.out, he]))
          have hq : ((nj : Int) != n0) = false := by simp [he]
          have HVX := Lib.hid hvx
          clear hx hI he hvx
          go_wp2_with fail
          refine (impl_IsValidVector _ _ _ xs _ hrd hnj).mono ?_
          rintro e w' ⟨rfl, rfl⟩
          rw [HVX.out]
          go_wp2_with fail
          go_round
          case rel => exact ⟨k + 1, by omega, by go_num, HN.out⟩
          case measure => simp [intOf]; omega
        · have HE := Lib.hid (HNO.out (List.all_eq_false.2 ⟨xs, List.mem_of_getElem? hx, by simp [Nc.rowB, HX.out, HC.out, he]⟩))
          have hq : ((nj : Int) != n0) = true := by simp; omega
          have HVX := Lib.hid hvx
          clear hx hI he hvx
          go_wp2_with fail
          refine (impl_IsValidVector _ _ _ xs _ hrd hnj).mono ?_
          rintro e w' ⟨rfl, rfl⟩
          rw [HVX.out]
          go_wp2_with fail
          go_ret
          exact ⟨_, _, _, rfl, by rw [HE.out]; exact Own.of (World.ownsRow_nil _ _ _ _) (Nat.le_refl _), Below.refl _ _⟩
    · obtain rfl : k = n := by omega
      have hall : rows.all (Nc.rowB (Nc.cols rows)) = true := by
        have := hI; unfold MatIs at this; rw [this, List.drop_of_length_le (by rw [HL.out]; exact Nat.le_refl _)]; rfl
      have HE := Lib.hid (HYES.out hall)
      have HROW := Lib.hid (show ∀ r ∈ rows, Nc.vecB r = true ∧ r.length = Nc.cols rows from fun r hr' => by
        have := List.all_eq_true.1 hall r hr'
        simpa [Nc.rowB] using this)
      clear hI hall
      go_wp2_with fail
      refine (impl_combine _ _ _ _ _ rows cs _ hr hv hp hn40 HROW.out (Nc.vecB_el HV.out)).mono ?_
      rintro e w2 ⟨A3, n3, c3, rfl, ho3, hb3⟩
      go_wp2_with fail
      go_ret
      exact ⟨_, _, _, rfl, by rw [HE.out]; exact ho3, hb3⟩

set_option maxHeartbeats 2000000 in
theorem spec_Combine (A : Option Addr) (n c : Nat) (A2 : Option Addr) (m c2 : Nat) (rows : List (List Int)) (cs : List Int) (w : World) (hr : RdM w w.heap.size A n rows) (hv : Rd w w.heap.size A2 m (cs.map (.int .i64))) (hn : n ≤ 9223372036854775806) (hm : m ≤ 9223372036854775806) (hrn : ∀ xs ∈ rows, xs.length ≤ 1048576) :
    Calls Try.prog 60 #[.slice A n c, .slice A2 m c2] w (Fresh 3 w ((Nc.combL rows cs).map (.int .i64))) := by
  obtain ⟨i0, hi0, hz0, hz1, hz2⟩ := info_parts Try.info_int
  have HL := Lib.hid hr.len
  have HY := Lib.hid hv.ilen
  have HRN := Lib.hid hrn
  clear hrn
  by_cases h0 : n = 0
  · have HE := Lib.hid (show Nc.combL rows cs = [] by unfold Nc.combL Nc.combB; rw [HL.out, h0]; simp)
    have hq0 : ((n : Int) == 0) = true := by simp [h0]
    clear h0
    go_enter Try.func60, Try.ntmps60
    go_wp2_with fail
    go_ret
    exact ⟨_, _, _, rfl, by rw [HE.out]; exact Own.of (World.ownsRow_lit w #[] 0 (Nat.le_refl _) (by decide) rfl) (Nat.le_refl _), (Below.refl _ _).alloc (Nat.le_refl _) _⟩
  have hq0 : ((n : Int) == 0) = false := by simp; omega
  by_cases h1 : n = m
  rotate_left
  · have HE := Lib.hid (show Nc.combL rows cs = [] by unfold Nc.combL Nc.combB; rw [HL.out, HY.out]; simp [h1])
    have hq1 : ((n : Int) != m) = true := by simp; omega
    go_enter Try.func60, Try.ntmps60
    go_wp2_with fail
    go_ret
    exact ⟨_, _, _, rfl, by rw [HE.out]; exact Own.of (World.ownsRow_lit w #[] 0 (Nat.le_refl _) (by decide) rfl) (Nat.le_refl _), (Below.refl _ _).alloc (Nat.le_refl _) _⟩
  subst h1
  have hq1 : ((n : Int) != n) = false := by simp
  cases h2 : Nc.vecB cs
  · have HE := Lib.hid (show Nc.combL rows cs = [] by unfold Nc.combL Nc.combB; rw [h2]; simp)
    have HV := Lib.hid h2
    clear h2
    go_enter Try.func60, Try.ntmps60
    go_wp2_with fail
    refine (spec_IsValidVector _ _ _ cs _ hv hm).mono ?_
    rintro e w' ⟨rfl, rfl⟩
    rw [HV.out]
    go_wp2_with fail
    go_ret
    exact ⟨_, _, _, rfl, by rw [HE.out]; exact Own.of (World.ownsRow_lit w #[] 0 (Nat.le_refl _) (by decide) rfl) (Nat.le_refl _), (Below.refl _ _).alloc (Nat.le_refl _) _⟩
  have HV := Lib.hid h2
  have HVE := Lib.hid (Nc.vecB_el h2)
  have hn40 : n ≤ 40 := by rw [← HY.out]; exact Nc.vecB_len h2
  have HNO := Lib.hid (show rows.all (Nc.rowB (Nc.cols rows)) = false → Nc.combL rows cs = [] by intro h; unfold Nc.combL Nc.combB; rw [h]; simp)
  have HYES := Lib.hid (show rows.all (Nc.rowB (Nc.cols rows)) = true → Nc.combL rows cs = Nc.combTo rows cs (Nc.cols rows) rows.length by intro h; unfold Nc.combL Nc.combB; rw [h, h2, HL.out, HY.out]; simp [h0])
  have hp : 0 < n := by omega
  clear h0 h2
  obtain ⟨b0, o0, A0, n0, c0, xs0, rfl, _, hx0, hc0, _, _, hrd0⟩ := hr.at_ hp
  have HC := Lib.hid (show Nc.cols rows = n0 by rw [cols_at hx0, hrd0.ilen])
  have hn0 : n0 ≤ 1048576 := by rw [← hrd0.ilen]; exact HRN.out xs0 (List.mem_of_getElem? hx0)
  rw [Nat.add_zero] at hc0
  have HC0 := Lib.hid hc0
  have hlt0 := World.block_lt_of_cell? w _ hc0
  clear hx0 hrd0
  go_enter Try.func60, Try.ntmps60
  go_wp2_with fail
  refine (spec_IsValidVector _ _ _ cs _ hv hm).mono ?_
  rintro e w' ⟨rfl, rfl⟩
  rw [HV.out]
  go_wp2_with (first | (at_make; refine wpList_mk _ rfl _ _ _ rfl w.heap.size 3 i0 .i64 Try.underlying30 hi0 hz0 hz1 .i64 .i64 _ _ n0 rfl rfl rfl rfl (by rw [hz2]; omega) (by unfold maxLen; omega) (Nat.le_refl _) ?_; intro w1 hown1 hb1) | fail)
  clear hc0
  go_loopw [5, 6] (fun s i wr => ∃ (j : Nat) (A1 : Option Addr) (c1 : Nat), j ≤ n ∧ i = .int .i64 j ∧ s = .slice A1 n0 c1 ∧ Own wr w.heap.size wr.heap.size 3 A1 n0 c1 ((Nc.combTo rows cs n0 j).map (.int .i64)) ∧ MatIs rows j ∧ Below w.heap.size w wr) (fun _ i _ => n - (intOf i).toNat)
  case atStart => exact ⟨0, _, _, Nat.zero_le _, rfl, rfl, by have := Own.of hown1 (Nat.le_refl _); rw [rd_of_replicate] at this; exact this, rfl, hb1⟩
  case round =>
    obtain ⟨j, A1, c1, hj, rfl, rfl, hown, hI, hb⟩ := hrel
    have hsz := hb.size
    have hc0 : wr.cell? ⟨b0, o0, none⟩ = some (.slice A0 n0 c0) := (hb.cell (p := ⟨b0, o0, none⟩) hlt0).trans HC0.out
    by_cases hlt : j < n
    · obtain ⟨b, o, Aj, nj, cj, x, e1, hbB, hx, hc, _, _, hrd⟩ := (hr.below hb (Nat.le_refl _)).at_ hlt
      injection e1 with e1
      injection e1 with e1 e2
      subst e1 e2
      obtain ⟨b3, o3, k, rfl, hbB3, hk, hck⟩ := (hv.below hb (Nat.le_refl _)).int hlt
      obtain ⟨k0, k1⟩ := HVE.out k (List.mem_of_getElem? hk)
      have HX := Lib.hid hrd.ilen
      have hnj : nj ≤ 1048576 := by rw [← hrd.ilen]; exact HRN.out x (List.mem_of_getElem? hx)
      have HRD := Lib.hid (show ∀ q, Rd (wr.drewN q) (wr.drewN q).heap.size Aj nj (x.map (.int .i64)) from fun q => hrd.more hsz)
      have j0 : (0 : Int) ≤ j := by omega
      have j1 : (j : Int) < n := by omega
      have z1 : (0 : Int) < n := by omega
      have HO := Lib.hid hown
      have HBB := Lib.hid hb
      cases hvx : Nc.vecB x
      · have HE := Lib.hid (HNO.out (List.all_eq_false.2 ⟨x, List.mem_of_getElem? hx, by simp [Nc.rowB, hvx]⟩))
        have HVX := Lib.hid hvx
        clear hx hk hI hvx hrd hown hb
        go_wp2_with fail
        go_quiet ((go_at_call 66; exact quiet_pure (spec_IsValidVector _ _ _ x _ (HRD.out _) (by omega)) HVX.out))
        go_wp2_with fail
        go_ret
        exact ⟨_, _, _, rfl, by rw [HE.out]; exact Own.of (World.ownsRow_lit wr #[] 0 hsz (by decide) rfl) (Nat.le_refl _), HBB.out.trans ((below_drewN (Below.refl _ _) _).alloc hsz _)⟩
      · by_cases he : nj = n0
        · subst he
          have HN := Lib.hid (Nc.combTo_next (n := nj) hx hk)
          have HNI := Lib.hid (mat_next hI hx hvx (by rw [HX.out, HC.out]))
          have HLEN := Lib.hid (show (Nc.combTo rows cs nj j).length = nj by have := hown.len; simpa using this)
          have HLEN2 := Lib.hid (show (Nc.combTo rows cs nj (j + 1)).length = nj by rw [HN.out, Nc.addR_len, HLEN.out, HX.out]; omega)
          have HADD := Lib.hid (show Nc.addL (Nc.combTo rows cs nj j) x k = Nc.addR (Nc.combTo rows cs nj j) x k by
            have v1 : Nc.vecB (Nc.combTo rows cs nj j) = true := Nc.vecB_mk (Nc.combTo_el _ _ _ _) (by rw [HLEN.out, ← HX.out]; exact Nc.vecB_len hvx)
            unfold Nc.addL Nc.pairB
            rw [v1, hvx, HLEN.out, HX.out, show Nc.elB k = true from Nc.inB_of k0 k1]; simp)
          have hq : ((nj : Int) != nj) = false := by simp
          have HVX := Lib.hid hvx
          clear hx hk hI hvx hrd hown hb
          go_wp2_with fail
          go_quiet ((go_at_call 66; exact quiet_pure (spec_IsValidVector _ _ _ x _ (HRD.out _) (by omega)) HVX.out))
          go_wp2_with fail
          generalize hwv : wr.drewN nq = wv
          have hqv : Qt wr wv := ⟨_, hwv.symm⟩
          have hcv : wv.cell? ⟨b0, o0 + j, none⟩ = some (.slice Aj nj cj) := (hqv.cell _).trans hc
          have hckv : wv.cell? ⟨b3, o3 + j, none⟩ = some (.int .i64 k) := (hqv.cell _).trans hck
          have HOV := Lib.hid (HO.out.rd.qt hqv)
          have HRV := Lib.hid ((HRD.out 0).qt hqv)
          have HQV := Lib.hid hqv
          clear hwv hc hck hqv
          go_region_with ((go_at_call 112; refine (spec_AddScaled _ _ _ _ _ _ k (Nc.combTo rows cs nj j) x _ (by exact HOV.out) (by exact HRV.out) (by omega) (by omega)).mono ?_; rintro e w2 ⟨A3, n3, c3, rfl, ho3, hb3⟩))
          all_goals
            have hsv : w.heap.size ≤ wv.heap.size := by rw [HQV.out.size]; exact hsz
            have hb4 := (HBB.out.trans (HQV.out.below.mono hsz)).drew.trans (hb3.mono hsv)
            rw [HADD.out, ← HN.out] at ho3
            obtain rfl : n3 = nj := by have h1 := ho3.len; simp only [List.length_map] at h1; rw [← h1, HLEN2.out]
            have ho4 := ho3.more (lo' := w.heap.size) hsv (Nat.le_refl _)
            clear ho3 hb3 hsv
            go_wp2_with fail
            go_roundw
            case rel => exact ⟨j + 1, A3, c3, by omega, by go_num, rfl, ho4, HNI.out, hb4⟩
            case measure => simp [intOf]; omega
        · have HE := Lib.hid (HNO.out (List.all_eq_false.2 ⟨x, List.mem_of_getElem? hx, by simp [Nc.rowB, HX.out, HC.out, he]⟩))
          have hq : ((nj : Int) != n0) = true := by simp; omega
          have HVX := Lib.hid hvx
          clear hx hk hI hvx hrd hown hb he
          go_wp2_with fail
          go_quiet ((go_at_call 66; exact quiet_pure (spec_IsValidVector _ _ _ x _ (HRD.out _) (by omega)) HVX.out))
          go_wp2_with fail
          go_ret
          exact ⟨_, _, _, rfl, by rw [HE.out]; exact Own.of (World.ownsRow_lit wr #[] 0 hsz (by decide) rfl) (Nat.le_refl _), HBB.out.trans ((below_drewN (Below.refl _ _) _).alloc hsz _)⟩
    · obtain rfl : j = n := by omega
      have hall : rows.all (Nc.rowB (Nc.cols rows)) = true := by
        have := hI; unfold MatIs at this; rw [this, List.drop_of_length_le (by rw [HL.out]; exact Nat.le_refl _)]; rfl
      have HE := Lib.hid (HYES.out hall)
      clear hI hall
      go_wp2_with fail
      go_ret
      exact ⟨_, _, _, rfl, by rw [HE.out, HC.out, HL.out]; exact hown, hb⟩

end Go.Proofs.Ytnobbojjhehdfaa
