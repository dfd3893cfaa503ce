/- Contracts of the Vandermonde matrices. Conditions: stated with each theorem. -/
import Derived.Test.YtnobbojjhehdfaaIdent
namespace Go.Proofs.Ytnobbojjhehdfaa
open Go.RowKit
set_option maxRecDepth 100000

theorem halfR_hole {rows : List (List Int)} {n k : Nat} (h : rows.length = n) (hk : k < n) : (halfR rows n k).set k [] = halfR rows n k := by
  have hl : (rows.take k).length = k := by simp; omega
  unfold halfR
  rw [List.set_append_right _ _ (by omega), hl, Nat.sub_self, show n - k = (n - k - 1) + 1 by omega]
  rfl
theorem halfR_len {rows : List (List Int)} {n k : Nat} (h : rows.length = n) (hk : k ≤ n) : (halfR rows n k).length = n := by
  unfold halfR; simp; omega
theorem halfR_at {rows : List (List Int)} {n k : Nat} {r : List Int} (h : rows.length = n) (hk : k < n) : ((halfR rows n k).set k r)[k]? = some r := by
  rw [List.getElem?_set_self (by rw [halfR_len h (by omega)]; exact hk)]

/-- A row of a Vandermonde matrix. -/
def Nc.vanRow (x : Int) (q : Nat) : List Int := (List.range q).map fun j : Nat => Nc.powM x (j : Int) 1019
def Nc.vanR (ps : List Int) (q : Nat) : List (List Int) := ps.map fun x => Nc.vanRow x q
def Nc.vanL (ps : List Int) (q : Int) : List (List Int) := if Nc.vecB ps && Nc.inB q 0 40 then Nc.vanR ps q.toNat else []
theorem Nc.vanRow_len (x : Int) (q : Nat) : (Nc.vanRow x q).length = q := by simp [Nc.vanRow]
theorem Nc.vanRow_at (x : Int) {q j : Nat} (h : j < q) : (Nc.vanRow x q)[j]? = some (Nc.powM x (j : Int) 1019) := by simp [Nc.vanRow, h]
theorem Nc.vanR_at {ps : List Int} {k : Nat} {x : Int} (q : Nat) (h : ps[k]? = some x) : (Nc.vanR ps q)[k]? = some (Nc.vanRow x q) := by simp [Nc.vanR, h]
theorem Nc.vanR_len (ps : List Int) (q : Nat) : (Nc.vanR ps q).length = ps.length := by simp [Nc.vanR]
theorem Nc.powM_next {x : Int} (h0 : 0 ≤ x) (j : Nat) : Nc.powM x (j : Int) 1019 * x % 1019 = Nc.powM x ((j + 1 : Nat) : Int) 1019 := by
  obtain ⟨x, rfl⟩ := Int.eq_ofNat_of_zero_le h0
  unfold Nc.powM
  simp only [Int.toNat_natCast, show Int.toNat 1019 = 1019 from rfl]
  rw [Nat.pow_succ, Nat.mul_mod (x ^ j) x]
  rw [show ((x ^ j % 1019 : Nat) : Int) * (x : Int) = ((x ^ j % 1019 * x : Nat) : Int) by simp]
  rw [show (1019 : Int) = ((1019 : Nat) : Int) from rfl, ← Int.natCast_emod, Nat.mul_mod, Nat.mod_mod]
theorem Nc.powM_zero (x : Int) : Nc.powM x 0 1019 = 1 := by simp [Nc.powM]
theorem Nc.vanL_len (ps : List Int) (q : Int) : (Nc.vanL ps q).length ≤ 40 := by
  unfold Nc.vanL
  split
  · rename_i h
    simp only [Bool.and_eq_true] at h
    rw [Nc.vanR_len]; exact Nc.vecB_len h.1
  · simp
theorem Nc.vanL_row (ps : List Int) (q : Int) : ∀ r ∈ Nc.vanL ps q, r.length ≤ 40 := by
  unfold Nc.vanL
  split
  · rename_i h
    simp only [Bool.and_eq_true] at h
    have := Nc.inB_true h.2
    intro r hr
    obtain ⟨i, _, rfl⟩ := List.mem_map.1 hr
    rw [Nc.vanRow_len]; omega
  · simp

set_option maxHeartbeats 2000000 in
theorem impl_Vandermonde (A : Option Addr) (n c : Nat) (ps : List Int) (q : Int) (w : World) (hp : Rd w w.heap.size A n (ps.map (.int .i64))) (hn : n ≤ 9223372036854775806) :
    Calls Try.prog 75 #[.slice A n c, .int .i64 q] w (FreshM 3 30 w (Nc.vanL ps q)) := by
  obtain ⟨i0, hi0, hz0, hz1, hz2⟩ := info_parts Try.info_row
  obtain ⟨j0, hj0, hy0, hy1, hy2⟩ := info_parts Try.info_int
  have HL := Lib.hid hp.ilen
  cases h1 : Nc.vecB ps
  · have HE := Lib.hid (show Nc.vanL ps q = [] by simp [Nc.vanL, h1])
    have HV := Lib.hid h1
    clear h1
    go_enter Try.func75, Try.ntmps75
    go_wp2_with fail
    refine (impl_IsValidVector _ _ _ ps _ hp hn).mono ?_
    rintro e w' ⟨rfl, rfl⟩
    rw [HV.out]
    go_wp2_with fail
    go_ret
    exact ⟨_, _, _, rfl, by rw [HE.out]; exact OwnM.nil (Nat.le_refl _), Below.refl _ _⟩
  have HV := Lib.hid h1
  cases h2 : Nc.inB q 0 40
  · have HE := Lib.hid (show Nc.vanL ps q = [] by simp [Nc.vanL, h2])
    clear h1
    go_enter Try.func75, Try.ntmps75
    go_wp2_with fail
    refine (impl_IsValidVector _ _ _ ps _ hp hn).mono ?_
    rintro e w' ⟨rfl, rfl⟩
    rw [HV.out]
    go_wp2_with (go_at_call 86; refine (impl_InRange _ _ _ _).mono ?_; rintro e w' ⟨rfl, rfl⟩)
    go_ret
    exact ⟨_, _, _, rfl, by rw [HE.out]; exact OwnM.nil (Nat.le_refl _), Below.refl _ _⟩
  obtain ⟨b3, b4⟩ := Nc.inB_true h2
  have hn40 : n ≤ 40 := by rw [← HL.out]; exact Nc.vecB_len h1
  have EP := Lib.hid (Nc.vecB_el h1)
  have HE := Lib.hid (show Nc.vanL ps q = Nc.vanR ps q.toNat by simp [Nc.vanL, h1, h2])
  obtain ⟨m, hm⟩ := Int.eq_ofNat_of_zero_le b3
  subst hm
  have HR := Lib.hid (show (Nc.vanR ps m).length = n by rw [Nc.vanR_len, HL.out])
  clear h1
  go_enter Try.func75, Try.ntmps75
  go_wp2_with fail
  refine (impl_IsValidVector _ _ _ ps _ hp hn).mono ?_
  rintro e w' ⟨rfl, rfl⟩
  rw [HV.out]
  go_wp2_with (first | (go_at_call 86; refine (impl_InRange _ _ _ _).mono ?_; rintro e w' ⟨rfl, rfl⟩) | (at_make; refine wpList_mkS _ rfl _ _ _ rfl w.heap.size 30 i0 Try.underlying24 hi0 hz0 hz1 .i64 .i64 _ _ n rfl rfl rfl rfl (by rw [hz2]; omega) (by unfold maxLen; omega) (Nat.le_refl _) ?_; intro w1 hown1 hb1) | fail)
  go_loopw [22] (fun i wr => ∃ k : Nat, k ≤ n ∧ i = .int .i64 k ∧ OwnM 3 30 wr w.heap.size wr.heap.size (some ⟨w.heap.size, 0, none⟩) n n (halfR (Nc.vanR ps m) n k) ∧ Below w.heap.size w wr) (fun i _ => n - (intOf i).toNat)
  case atStart => exact ⟨0, Nat.zero_le _, rfl, by rw [halfR_zero]; exact OwnM.made hown1 (Nat.le_refl _), hb1⟩
  case round =>
    obtain ⟨k, hk, rfl, hown, hb⟩ := hrel
    have hsz := hb.size
    by_cases hlt : k < n
    · obtain ⟨b, o, x, rfl, hbB, hx1, hc⟩ := hp.int hlt
      obtain ⟨x0, x1⟩ := EP.out x (List.mem_of_getElem? hx1)
      have hc1 := (hb.cell (p := ⟨b, o + k, none⟩) hbB).trans hc
      have HN := Lib.hid (halfR_next HR.out (Nc.vanR_at m hx1))
      have HH := Lib.hid (halfR_hole HR.out hlt)
      obtain ⟨wo, hwo⟩ : ∃ wo : World, wo = wr := ⟨_, rfl⟩
      subst hwo
      clear hx1
      go_wp2_with fail
      go_loopw [8, 28] (fun p jv wi => ∃ (j : Nat) (P : Int), j ≤ m ∧ jv = .int .i64 j ∧ p = .int .i64 P ∧ Hid (P = Nc.powM x (j : Int) 1019) ∧ OwnM 3 30 wi w.heap.size wi.heap.size (some ⟨w.heap.size, 0, none⟩) n n ((halfR (Nc.vanR ps m) n k).set k ((Nc.vanRow x m).take j)) ∧ Below w.heap.size w wi) (fun _ j _ => m - (intOf j).toNat)
      case atStart => exact ⟨0, 1, Nat.zero_le _, rfl, rfl, Lib.hid (Nc.powM_zero x).symm, by rw [List.take_zero, HH.out]; exact hown, hb⟩
      case round =>
        obtain ⟨j, P, hj, rfl, rfl, hP, howi, hbi⟩ := hrel
        have hszi := hbi.size
        by_cases hjl : j < m
        · obtain ⟨g, Aj, nj, cj, ys, hg, hglo, hghi, hys, hyl, hcell, hrow, hput⟩ := howi.rowApp (by decide) hlt (Nat.le_refl _) hszi
          obtain rfl : w.heap.size = g := by injection hg with hg; injection hg
          rw [halfR_at HR.out hlt] at hys
          simp only [Option.some.injEq] at hys
          subst hys
          obtain rfl : j = nj := by rw [← hyl, List.length_take, Nc.vanRow_len]; omega
          obtain ⟨P0, P1⟩ : 0 ≤ P ∧ P ≤ 1018 := by rw [hP.out]; have := Nc.powM_bd x j (m := 1019) (by omega); omega
          obtain ⟨p0, p1⟩ := mul_el (x := P) (y := x) ⟨P0, P1⟩ ⟨x0, x1⟩
          have HT := Lib.hid (take_next (Nc.vanRow_at x hjl))
          have HP := Lib.hid (Nc.powM_next x0 j)
          have HPUT := Lib.hid hput
          clear hput hg hglo hghi hyl
          go_wp2_with (first | (at_builtin; refine wpList_app1K _ rfl _ _ _ rfl w.heap.size 3 j0 _ 8 Try.underlying30 hj0 hy0 hy1 hy2 rfl Aj j cj _ rfl hrow (.int .i64 P) rfl _ rfl (by unfold maxLen; omega) (by omega) hszi ?_; intro A3 c3 w3 hap; obtain ⟨hcell3, hfz3, hb3, hset3⟩ := HPUT.out w3 A3 c3 ((Nc.vanRow x m).take j ++ [P]) (by simpa using hap); clear hap) | fail)
          go_roundw
          case rel => exact ⟨j + 1, P * x % 1019, by omega, by go_num, by first | rfl | go_num, Lib.hid (by rw [hP.out]; exact HP.out), by rw [HT.out, ← hP.out]; rw [List.set_set] at hset3; simpa using hset3, (hbi.trans hb3).setCell (p := ⟨w.heap.size, k, none⟩) (Nat.le_refl _) _⟩
          case measure => simp [intOf]; omega
        · obtain rfl : j = m := by omega
          go_wp2_with fail
          go_roundw
          case rel => exact ⟨k + 1, by omega, by go_num, by rw [← HN.out]; rw [List.take_of_length_le (by rw [Nc.vanRow_len]; exact Nat.le_refl _)] at howi; exact howi, hbi⟩
          case measure => simp [intOf]; omega
    · obtain rfl : k = n := by omega
      go_wp2_with fail
      go_ret
      rw [halfR_full _ _ HR.out] at hown
      exact ⟨_, _, _, rfl, by rw [HE.out]; exact hown, hb⟩

set_option maxHeartbeats 2000000 in
theorem spec_Vandermonde (A : Option Addr) (n c : Nat) (ps : List Int) (q : Int) (w : World) (hp : Rd w w.heap.size A n (ps.map (.int .i64))) (hn : n ≤ 9223372036854775806) :
    Calls Try.prog 79 #[.slice A n c, .int .i64 q] w (FreshM 3 30 w (Nc.vanL ps q)) := by
  obtain ⟨i0, hi0, hz0, hz1, hz2⟩ := info_parts Try.info_row
  obtain ⟨j0, hj0, hy0, hy1, hy2⟩ := info_parts Try.info_int
  have HL := Lib.hid hp.ilen
  have HW := Lib.hid (show Rd (w.alloc (.cells #[] 30)) (w.alloc (.cells #[] 30)).heap.size A n (ps.map (.int .i64)) from (hp.below ((Below.refl _ _).alloc (Nat.le_refl _) _) (Nat.le_refl _)).more (by simp))
  cases h1 : Nc.vecB ps
  · have HE := Lib.hid (show Nc.vanL ps q = [] by simp [Nc.vanL, h1])
    have HV := Lib.hid h1
    clear h1
    go_enter Try.func79, Try.ntmps79
    go_wp2_with fail
    refine (spec_IsValidVector _ _ _ ps _ HW.out hn).mono ?_
    rintro e w' ⟨rfl, rfl⟩
    rw [HV.out]
    go_wp2_with fail
    go_ret
    exact ⟨_, _, _, rfl, by rw [HE.out]; exact OwnM.lit (Nat.le_refl _) (by simp), (Below.refl _ _).alloc (Nat.le_refl _) _⟩
  have HV := Lib.hid h1
  cases h2 : Nc.inB q 0 40
  · have HE := Lib.hid (show Nc.vanL ps q = [] by simp [Nc.vanL, h2])
    clear h1
    go_enter Try.func79, Try.ntmps79
    go_wp2_with fail
    refine (spec_IsValidVector _ _ _ ps _ HW.out hn).mono ?_
    rintro e w' ⟨rfl, rfl⟩
    rw [HV.out]
    go_wp2_with (go_at_call 89; refine (spec_l1In _ _ _ _).mono ?_; rintro e w' ⟨rfl, rfl⟩)
    go_ret
    exact ⟨_, _, _, rfl, by rw [HE.out]; exact OwnM.lit (Nat.le_refl _) (by simp), (Below.refl _ _).alloc (Nat.le_refl _) _⟩
  obtain ⟨b3, b4⟩ := Nc.inB_true h2
  have hn40 : n ≤ 40 := by rw [← HL.out]; exact Nc.vecB_len h1
  have EP := Lib.hid (Nc.vecB_el h1)
  have HE := Lib.hid (show Nc.vanL ps q = Nc.vanR ps q.toNat by simp [Nc.vanL, h1, h2])
  obtain ⟨m, hm⟩ := Int.eq_ofNat_of_zero_le b3
  subst hm
  have HR := Lib.hid (show (Nc.vanR ps m).length = n by rw [Nc.vanR_len, HL.out])
  clear h1
  go_enter Try.func79, Try.ntmps79
  go_wp2_with fail
  refine (spec_IsValidVector _ _ _ ps _ HW.out hn).mono ?_
  rintro e w' ⟨rfl, rfl⟩
  rw [HV.out]
  go_wp2_with (go_at_call 89; refine (spec_l1In _ _ _ _).mono ?_; rintro e w' ⟨rfl, rfl⟩)
  go_loopw [5, 6] (fun v i wr => ∃ (k : Nat) (A1 : Option Addr) (c1 : Nat), k ≤ n ∧ i = .int .i64 k ∧ v = .slice A1 k c1 ∧ OwnM 3 30 wr w.heap.size wr.heap.size A1 k c1 ((Nc.vanR ps m).take k) ∧ Below w.heap.size w wr) (fun _ i _ => n - (intOf i).toNat)
  case atStart => exact ⟨0, _, _, Nat.zero_le _, rfl, rfl, OwnM.lit (Nat.le_refl _) (by simp), (Below.refl _ _).alloc (Nat.le_refl _) _⟩
  case round =>
    obtain ⟨k, A1, c1, hk, rfl, rfl, hown, hb⟩ := hrel
    have hsz := hb.size
    by_cases hlt : k < n
    · obtain ⟨b, o, x, rfl, hbB, hx1, hc⟩ := hp.int hlt
      obtain ⟨x0, x1⟩ := EP.out x (List.mem_of_getElem? hx1)
      have HN := Lib.hid (take_next (Nc.vanR_at m hx1))
      obtain ⟨wo, hwo⟩ : ∃ wo : World, wo = wr := ⟨_, rfl⟩
      subst hwo
      clear hx1
      go_wp2_with fail
      go_loopw [7, 8] (fun r jv wi => ∃ (j : Nat) (A2 : Option Addr) (c2 : Nat), j ≤ m ∧ jv = .int .i64 j ∧ r = .slice A2 j c2 ∧ wi.ownsRow wo.heap.size 3 1 (.slice A2 j c2) j (((Nc.vanRow x m).take j).map (.int .i64)) ∧ Below wo.heap.size wo wi) (fun _ j _ => m - (intOf j).toNat)
      case atStart => exact ⟨0, _, _, Nat.zero_le _, rfl, rfl, World.ownsRow_lit wo #[] 0 (Nat.le_refl _) (by decide) rfl, (Below.refl _ _).alloc (Nat.le_refl _) _⟩
      case round =>
        obtain ⟨j, A2, c2, hj, rfl, rfl, howi, hbi⟩ := hrel
        have hszi := hbi.size
        by_cases hjl : j < m
        · have hc1 := (hbi.cell (p := ⟨b, o + k, none⟩) (by exact Nat.lt_of_lt_of_le hbB hsz)).trans ((hb.cell (p := ⟨b, o + k, none⟩) hbB).trans hc)
          have HT := Lib.hid (take_next (Nc.vanRow_at x hjl))
          have HF := Lib.hid (show Nc.powF x (j : Int) = Nc.powM x (j : Int) 1019 by unfold Nc.powF Nc.elB; rw [Nc.inB_of x0 x1, Nc.inB_of (show (0 : Int) ≤ j by omega) (show (j : Int) ≤ 1000000000000 by omega)]; rfl)
          go_wp2_with fail
          refine (spec_PowField _ _ _).mono ?_
          rintro e w' ⟨rfl, rfl⟩
          rw [HF.out]
          go_wp2_with (first | (at_builtin; refine wpList_app1 _ rfl _ _ _ rfl wo.heap.size 3 j0 _ 8 Try.underlying30 hj0 hy0 hy1 hy2 rfl A2 j c2 _ rfl howi (.int .i64 (Nc.powM x (j : Int) 1019)) rfl _ rfl (by unfold maxLen; omega) (by omega) (by omega) ?_; intro A3 c3 w3 hown3 hb4) | fail)
          go_roundw
          case rel => exact ⟨j + 1, A3, c3, by omega, by go_num, rfl, by rw [HT.out, List.map_append]; exact hown3, hbi.trans hb4⟩
          case measure => simp [intOf]; omega
        · obtain rfl : j = m := by omega
          rw [List.take_of_length_le (by rw [Nc.vanRow_len]; exact Nat.le_refl _)] at howi
          have hown2 := hown.below hbi (Nat.le_refl _)
          have hb3 := hb.trans (hbi.mono hsz)
          have hs3 := hb3.size
          go_wp2_with (first | (at_builtin; refine wpList_appRow _ rfl _ _ _ rfl 3 30 (by decide) i0 _ 24 Try.underlying24 hi0 hz0 hz1 hz2 rfl w.heap.size wo.heap.size wo.heap.size wr.heap.size A1 k c1 _ rfl hown2 A2 j c2 _ (Own.of howi (Nat.le_refl _)) hsz (Nat.le_refl _) (Nat.le_refl _) _ rfl (by unfold maxLen; omega) (by omega) hs3 hszi ?_; intro A3 c3 w3 hown3 hb4) | fail)
          go_roundw
          case rel => exact ⟨k + 1, A3, c3, by omega, by go_num, rfl, by rw [HN.out]; exact hown3, hb3.trans hb4⟩
          case measure => simp [intOf]; omega
    · obtain rfl : k = n := by omega
      go_wp2_with fail
      go_ret
      rw [List.take_of_length_le (by rw [HR.out]; exact Nat.le_refl _)] at hown
      exact ⟨_, _, _, rfl, by rw [HE.out]; exact hown, hb⟩

end Go.Proofs.Ytnobbojjhehdfaa
