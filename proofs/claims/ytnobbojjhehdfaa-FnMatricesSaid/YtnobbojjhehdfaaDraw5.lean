/- Contracts of the drawn matrices. Conditions: stated with each theorem. -/
import Derived.Test.YtnobbojjhehdfaaDraw4
import Derived.Test.YtnobbojjhehdfaaMatMem3
import Derived.Test.YtnobbojjhehdfaaIdent
import Derived.Test.YtnobbojjhehdfaaLin
import Derived.Deep.RegionHeld3
import Derived.Deep.RegionLaw
namespace Go.Proofs.Ytnobbojjhehdfaa
open Go.RowKit
set_option maxRecDepth 100000

/-- No row is longer than M. -/
def Nc.rowsLe (M : Nat) (rows : List (List Int)) : Prop := ∀ r ∈ rows, r.length ≤ M
theorem Nc.rowsLe_nil (M : Nat) : Nc.rowsLe M [] := fun r hr => by simp at hr
theorem Nc.rowsLe_snoc {M : Nat} {rows : List (List Int)} {r : List Int} (h : Nc.rowsLe M rows) (hr : r.length ≤ M) : Nc.rowsLe M (rows ++ [r]) := by
  intro x hx
  rcases List.mem_append.1 hx with hx | hx
  · exact h x hx
  · rw [List.mem_singleton.1 hx]; exact hr
theorem Nc.rowsLe_rep (M n : Nat) : Nc.rowsLe M (List.replicate n []) := fun r hr => by rw [List.eq_of_mem_replicate hr]; exact Nat.zero_le _
/-- A matrix is drawn: new memory, and the cursor's block alone is written. -/
def DrawsM (N M : Nat) (w : World) (g : Nat) (r : Ending) (w' : World) : Prop :=
  ∃ A n c rows, r = .returned (.slice A n c) ∧ n ≤ N ∧ Nc.rowsLe M rows ∧ OwnM 3 30 w' w.heap.size w'.heap.size A n c rows ∧ Cur w' g ∧ w.grownBy w' (some g)
/-- Two matrices. -/
def DrawsMM (N M : Nat) (w : World) (r : Ending) (w' : World) : Prop :=
  ∃ A n c rows A2 n2 c2 rows2, r = .returned (.tuple #[.slice A n c, .slice A2 n2 c2]) ∧ n ≤ N ∧ n2 ≤ N ∧ Nc.rowsLe M rows ∧ Nc.rowsLe M rows2 ∧ OwnM 3 30 w' w.heap.size w'.heap.size A n c rows ∧ OwnM 3 30 w' w.heap.size w'.heap.size A2 n2 c2 rows2 ∧ Below w.heap.size w w'
/-- A matrix and a slice. -/
def DrawsMS (N M K : Nat) (w : World) (r : Ending) (w' : World) : Prop :=
  ∃ A n c rows A2 n2 c2, ∃ zs : List Int, r = .returned (.tuple #[.slice A n c, .slice A2 n2 c2]) ∧ n ≤ N ∧ n2 ≤ K ∧ Nc.rowsLe M rows ∧ OwnM 3 30 w' w.heap.size w'.heap.size A n c rows ∧ Own w' w.heap.size w'.heap.size 3 A2 n2 c2 (zs.map (.int .i64)) ∧ Below w.heap.size w w'

set_option maxHeartbeats 4000000 in
theorem spec_l6Matrix (g : Nat) (rn q : Int) (w : World) (hcur : Cur w g) (h0 : 0 ≤ rn) (h1 : rn ≤ 100) (q0 : 0 ≤ q) (q1 : q ≤ 40) :
    Calls Try.prog 120 #[.pointer (some ⟨g, 0, none⟩), .int .i64 rn, .int .i64 q] w (DrawsM rn.toNat 40 w g) := by
  obtain ⟨i0, hi0, hz0, hz1, hz2⟩ := info_parts Try.info_row
  have hglt := hcur.lt
  obtain ⟨m, rfl⟩ := Int.eq_ofNat_of_zero_le h0
  go_enter Try.func120, Try.ntmps120
  go_wp2_with fail
  go_loopw [7, 8] (fun v i wr => ∃ (k : Nat) (A1 : Option Addr) (c1 : Nat) (R : List (List Int)), k ≤ m ∧ i = .int .i64 k ∧ v = .slice A1 k c1 ∧ OwnM 3 30 wr w.heap.size wr.heap.size A1 k c1 R ∧ Nc.rowsLe 40 R ∧ Cur wr g ∧ w.grownBy wr (some g)) (fun _ i _ => m - (intOf i).toNat)
  case atStart => exact ⟨0, _, _, [], Nat.zero_le _, rfl, rfl, OwnM.lit (Nat.le_refl _) (by simp), Nc.rowsLe_nil _, hcur.below ((Below.refl _ _).alloc (Nat.le_refl _) _) hglt, World.grownBy_alloc _ _ _⟩
  case round =>
    obtain ⟨k, A1, c1, R, hk, rfl, rfl, hown, hall, cu, gr⟩ := hrel
    have hsz := gr.size
    by_cases hlt : k < m
    · by_cases hk0 : 0 < k
      · go_wp2_with fail
        refine (spec_l1Once g 4 _ cu (by omega) (by omega)).mono ?_
        rintro e W1 ⟨b, rfl, cu1, gr1⟩
        have hs1 := gr1.size
        replace hown := hown.grown gr1 (ne_cur hglt)
        replace gr := gr.trans gr1
        clear cu gr1
        cases b
        · go_wp2_with fail
          refine (spec_l5Vector g q _ cu1 q0 (by omega)).mono ?_
          rintro e W2 ⟨A2, n2, c2, zs, rfl, hn2, hz, o2, cu2, gr2⟩
          have hs2 := gr2.size
          have hl2 : zs.length ≤ 40 := by have t := o2.len; simp only [List.length_map] at t; omega
          replace hown := hown.grown gr2 (ne_cur hglt)
          replace gr := gr.trans gr2
          clear cu1 gr2
          go_wp2_with (first | (at_builtin; refine wpList_appRow _ rfl _ _ _ rfl 3 30 (by decide) i0 _ 24 Try.underlying24 hi0 hz0 hz1 hz2 rfl w.heap.size wr.heap.size W1.heap.size W2.heap.size A1 k c1 _ rfl hown A2 n2 c2 _ o2 (by omega) hs1 (Nat.le_refl _) _ rfl (by unfold maxLen; omega) (by omega) (by omega) (by omega) ?_; intro A3 c3 w3 hown3 hb3) | fail)
          go_roundw
          case rel => exact ⟨k + 1, A3, c3, R ++ [zs], by omega, by go_num, rfl, hown3, Nc.rowsLe_snoc hall hl2, cu2.below hb3 hglt, grown_below gr hb3⟩
          case measure => simp [intOf]; omega
        · obtain ⟨g0, Aj, nj, cj, ys, rfl, hys, hcell, hrow, _⟩ := hown.rowAt (by decide) (show k - 1 < k by omega)
          obtain ⟨hg0a, hg0b⟩ : w.heap.size ≤ g0 ∧ g0 < W1.heap.size := by
            obtain ⟨rs, hq1, _⟩ := hown
            obtain ⟨gg, hgg, ha, hb⟩ := hq1.addr (by omega)
            injection hgg with hgg
            injection hgg with hgg
            subst hgg
            exact ⟨ha, by omega⟩
          have hln : nj ≤ 40 := by have t := hrow.len; simp only [List.length_map] at t; have := hall ys (List.mem_of_getElem? hys); omega
          have e1 : IntKind.i64.wrap ((k : Int) - 1) = (k : Int) - 1 := IntWalk.i64_in _ (by omega)
          have e2 : ((k : Int) - 1).toNat = k - 1 := by omega
          have e3 : (0 : Int) ≤ (k : Int) - 1 := by omega
          have e4 : (k : Int) - 1 < k := by omega
          have e5 : (1 : Int) ≤ k := by omega
          have e6 : 1 ≤ k := by omega
          have HOWN := Lib.hid hown
          have HROW := Lib.hid hrow
          have HGR := Lib.hid gr
          have HALL := Lib.hid hall
          clear hown hrow gr hall hys
          have CU := Lib.hid cu1
          have HC := Lib.hid hcell
          clear cu1
          go_wp2_with fail
          go_region_law
            (first
              | (go_simp; go_at_call 121; refine (spec_l4Element g _ (by exact CU.out)).mono ?_; rintro e w2 ⟨x, rfl, x0, x1, cu2, gr2⟩; have grw : W1.grownBy w2 (some g) := ⟨gr2.os, gr2.tape, gr2.output, gr2.size, gr2.block⟩; have hs2 := grw.size; have hcell2 : w2.cell? ⟨g0, k - 1, none⟩ = some (.slice Aj nj cj) := grw.cell HC.out (by simp; omega); have HROW2 := Lib.hid (((HROW.out.grown grw (ne_cur hglt)).rd).more (show wr.heap.size ≤ w2.heap.size by omega)); have HOWN2 := Lib.hid (HOWN.out.grown grw (ne_cur hglt)); have HGR2 := Lib.hid (HGR.out.trans grw); have HCU2 := Lib.hid cu2; clear gr2 grw cu2)
              | (go_simp; go_at_call 63; refine (spec_ScaleVector _ _ _ x ys _ (by exact HROW2.out) (by omega)).mono ?_; rintro e w3 ⟨A3, n3, c3, rfl, o3, hb3⟩; have hbw : Below w2.heap.size w2 w3 := ⟨hb3.os, hb3.tape, hb3.output, hb3.size, hb3.block⟩; have hs3 := hbw.size; have hcell3 : w3.cell? ⟨g0, k - 1, none⟩ = some (.slice Aj nj cj) := (hbw.cell (p := ⟨g0, k - 1, none⟩) (by simp only; omega)).trans hcell2; have HB3 := Lib.hid hbw; have HO3 := Lib.hid (show Own w3 w2.heap.size w3.heap.size 3 A3 n3 c3 _ from o3); have HOWN3 := Lib.hid (HOWN2.out.below hbw (by omega)); clear hb3 hbw o3)
              | (refine step_appRow0 w3 (by rfl) _ _ _ (by rfl) 3 30 (by decide) i0 _ 24 Try.underlying24 hi0 hz0 hz1 hz2 rfl w.heap.size wr.heap.size w2.heap.size w3.heap.size (some ⟨g0, 0, none⟩) k c1 _ (by rfl) HOWN3.out A3 n3 c3 _ HO3.out (by omega) (by omega) (Nat.le_refl _) _ (by rfl) (by unfold maxLen; omega) (by omega) (by omega) (by omega) ?_; intro A4 c4 w4 hown4 hb4)
              | (refine step_appRow w3 (by rfl) _ _ _ (by rfl) 3 30 (by decide) i0 _ 24 Try.underlying24 hi0 hz0 hz1 hz2 rfl w.heap.size wr.heap.size w2.heap.size w3.heap.size (some ⟨g0, 0, none⟩) k c1 _ (by rfl) HOWN3.out A3 n3 c3 _ HO3.out (by omega) (by omega) (Nat.le_refl _) _ (by rfl) (by unfold maxLen; omega) (by omega) (by omega) (by omega) ?_; intro A4 c4 w4 hown4 hb4))
          all_goals
            have gr4 := grown_below (grown_below HGR2.out (HB3.out.mono (by omega))) hb4
            have cu4 := (HCU2.out.below HB3.out (by omega)).below hb4 hglt
            have hl4 := Nc.scaleL_len ys x
            go_wp2
            go_roundw
            case rel => exact ⟨k + 1, A4, c4, R ++ [Nc.scaleL ys x], by omega, by go_num, rfl, hown4, Nc.rowsLe_snoc HALL.out hl4, cu4, gr4⟩
            case measure => simp [intOf]; omega
      · obtain rfl : k = 0 := by omega
        go_wp2_with fail
        refine (spec_l5Vector g q _ cu q0 (by omega)).mono ?_
        rintro e W2 ⟨A2, n2, c2, zs, rfl, hn2, hz, o2, cu2, gr2⟩
        have hs2 := gr2.size
        have hl2 : zs.length ≤ 40 := by have t := o2.len; simp only [List.length_map] at t; omega
        replace hown := hown.grown gr2 (ne_cur hglt)
        replace gr := gr.trans gr2
        clear cu gr2
        go_wp2_with (first | (at_builtin; refine wpList_appRow _ rfl _ _ _ rfl 3 30 (by decide) i0 _ 24 Try.underlying24 hi0 hz0 hz1 hz2 rfl w.heap.size wr.heap.size wr.heap.size W2.heap.size A1 0 c1 _ rfl hown A2 n2 c2 _ o2 (by omega) (Nat.le_refl _) (Nat.le_refl _) _ rfl (by unfold maxLen; omega) (by omega) (by omega) (by omega) ?_; intro A3 c3 w3 hown3 hb3) | fail)
        go_roundw
        case rel => exact ⟨1, A3, c3, R ++ [zs], by omega, by go_num, rfl, hown3, Nc.rowsLe_snoc hall hl2, cu2.below hb3 hglt, grown_below gr hb3⟩
        case measure => simp [intOf]; omega
    · obtain rfl : k = m := by omega
      go_wp2_with fail
      go_ret
      exact ⟨_, _, _, R, rfl, by omega, hall, hown, cu, gr⟩

set_option maxHeartbeats 2000000 in
theorem spec_l6Any (g : Nat) (rn q : Int) (w : World) (hcur : Cur w g) (h0 : 0 ≤ rn) (h1 : rn ≤ 40) (q0 : 0 ≤ q) (q1 : q ≤ 40) :
    Calls Try.prog 82 #[.pointer (some ⟨g, 0, none⟩), .int .i64 rn, .int .i64 q] w (DrawsM 100 100 w g) := by
  obtain ⟨i0, hi0, hz0, hz1, hz2⟩ := info_parts Try.info_row
  have hglt := hcur.lt
  go_enter Try.func82, Try.ntmps82
  go_wp2_with fail
  refine (spec_l6Matrix g rn q _ hcur h0 (by omega) q0 q1).mono ?_
  rintro e W1 ⟨A1, n1, c1, R, rfl, hn1, hall, ho, cu, gr⟩
  have hs1 := gr.size
  go_wp2_with fail
  refine (spec_l1Below g 12 _ cu (by omega) (by omega)).mono ?_
  rintro e W2 ⟨x, rfl, x0, x1, cu2, gr2⟩
  have hs2 := gr2.size
  replace ho := ho.grown gr2 (ne_cur hglt)
  replace gr := gr.trans gr2
  have hall2 : Nc.rowsLe 100 R := fun r hr => Nat.le_trans (hall r hr) (by decide)
  clear cu gr2 hall
  by_cases hx0 : x = 0
  · subst hx0
    go_wp2_with fail
    refine (spec_l5Any g q _ cu2 q0 (by omega)).mono ?_
    rintro e W3 ⟨A3, n3, c3, zs, rfl, hn3, hz, o3, cu3, gr3⟩
    have hs3 := gr3.size
    have hl3 : zs.length ≤ 100 := by have t := o3.len; simp only [List.length_map] at t; omega
    replace ho := ho.grown gr3 (ne_cur hglt)
    replace gr := gr.trans gr3
    clear cu2 gr3
    go_wp2_with (first | (at_builtin; refine wpList_appRow _ rfl _ _ _ rfl 3 30 (by decide) i0 _ 24 Try.underlying24 hi0 hz0 hz1 hz2 rfl w.heap.size W1.heap.size W2.heap.size W3.heap.size A1 n1 c1 _ rfl ho A3 n3 c3 _ o3 (by omega) hs2 (Nat.le_refl _) _ rfl (by unfold maxLen; omega) (by omega) (by omega) (by omega) ?_; intro A4 c4 w4 hown4 hb4) | fail)
    go_ret
    exact ⟨_, _, _, R ++ [zs], rfl, by omega, Nc.rowsLe_snoc hall2 hl3, hown4, cu3.below hb4 hglt, grown_below gr hb4⟩
  · by_cases hx1 : x = 1
    · subst hx1
      go_wp2_with fail
      refine (spec_l1Below g 2 _ cu2 (by omega) (by omega)).mono ?_
      rintro e W3 ⟨y, rfl, y0, y1, cu3, gr3⟩
      have hs3 := gr3.size
      replace gr := gr.trans gr3
      clear cu2 gr3
      obtain ⟨p, rfl⟩ := Int.eq_ofNat_of_zero_le y0
      go_wp2_with (first | (at_make; refine wpList_mkS _ rfl _ _ _ rfl w.heap.size 30 i0 Try.underlying24 hi0 hz0 hz1 .i64 .i64 _ _ (40 + p) rfl rfl (by omega) (by omega) (by rw [hz2]; omega) (by unfold maxLen; omega) (by omega) ?_; intro w4 hown4 hb4) | fail)
      go_ret
      exact ⟨_, _, _, List.replicate (40 + p) [], rfl, by omega, Nc.rowsLe_rep _ _, OwnM.made hown4 (Nat.le_refl _), cu3.below hb4 hglt, grown_below gr hb4⟩
    · have e0 : (x == 0) = false := by simpa using hx0
      have e1 : (x == 1) = false := by simpa using hx1
      go_wp2_with fail
      go_ret
      exact ⟨_, _, _, R, rfl, by omega, hall2, ho.more (Nat.le_refl _) hs2, cu2, gr⟩

set_option maxHeartbeats 2000000 in
theorem spec_DrawMulMatrices (A : Option Addr) (n c : Nat) (xs : List Int) (w : World) (hr : Rd w w.heap.size A n (xs.map (.int .u8))) (hz : ∀ x ∈ xs, 0 ≤ x ∧ x ≤ 255) (hn : n ≤ 1048576) :
    Calls Try.prog 14 #[.slice A n c] w (DrawsMM 100 100 w) := by
  have HZ := Lib.hid hz
  clear hz
  go_enter Try.func14, Try.ntmps14
  go_wp2_with fail
  refine (spec_l1New _ _ _ xs _ hr HZ.out hn).mono ?_
  rintro e W1 ⟨rfl, cu, hB⟩
  have hs1 := hB.size
  have hlt1 := cu.lt
  go_wp2_with fail
  refine (spec_l1Below _ 4 _ cu (by omega) (by omega)).mono ?_
  rintro e W2 ⟨q, rfl, q0, q1, cu2, gr2⟩
  have hs2 := gr2.size
  go_wp2_with fail
  refine (spec_l1Below _ 4 _ cu2 (by omega) (by omega)).mono ?_
  rintro e W3 ⟨p, rfl, p0, p1, cu3, gr3⟩
  have hs3 := gr3.size
  go_wp2_with fail
  refine (spec_l6Any _ p q _ cu3 p0 (by omega) q0 (by omega)).mono ?_
  rintro e W4 ⟨Aa, na, ca, Ra, rfl, hna, halla, oa, cu4, gr4⟩
  have hs4 := gr4.size
  go_wp2_with fail
  refine (spec_l1Once _ 6 _ cu4 (by omega) (by omega)).mono ?_
  rintro e W5 ⟨b, rfl, cu5, gr5⟩
  have hs5 := gr5.size
  replace oa := oa.grown gr5 (ne_cur (by omega))
  have gr := ((gr2.trans gr3).trans gr4).trans gr5
  clear cu cu2 cu3 cu4 gr2 gr3 gr4 gr5
  cases b
  all_goals
    go_wp2_with fail
    refine (spec_l1Below _ 4 _ cu5 (by omega) (by omega)).mono ?_
    rintro e W6 ⟨s, rfl, s0, s1, cu6, gr6⟩
    have hs6 := gr6.size
    replace oa := oa.grown gr6 (ne_cur (by omega))
    replace gr := gr.trans gr6
    go_wp2_with fail
    refine (spec_l6Any _ _ s _ cu6 (by omega) (by omega) s0 (by omega)).mono ?_
    rintro e W7 ⟨Ab, nb, cb, Rb, rfl, hnb, hallb, ob, cu7, gr7⟩
    have hs7 := gr7.size
    replace oa := oa.grown gr7 (ne_cur (by omega))
    replace gr := gr.trans gr7
    replace hB := hB.grown gr (by omega) (fun k hk => by injection hk with hk; omega)
    go_wp2_with fail
    go_ret2
    exact ⟨_, _, _, Ra, _, _, _, Rb, rfl, hna, hnb, halla, hallb, oa.more (by omega) (by omega), ob.more (by omega) (by omega), hB⟩

set_option maxHeartbeats 2000000 in
theorem spec_DrawCombine (A : Option Addr) (n c : Nat) (xs : List Int) (w : World) (hr : Rd w w.heap.size A n (xs.map (.int .u8))) (hz : ∀ x ∈ xs, 0 ≤ x ∧ x ≤ 255) (hn : n ≤ 1048576) :
    Calls Try.prog 58 #[.slice A n c] w (DrawsMS 100 100 100 w) := by
  obtain ⟨i0, hi0, hz0, hz1, hz2⟩ := info_parts Try.info_row
  have HZ := Lib.hid hz
  clear hz
  go_enter Try.func58, Try.ntmps58
  go_wp2_with fail
  refine (spec_l1New _ _ _ xs _ hr HZ.out hn).mono ?_
  rintro e W1 ⟨rfl, cu, hB⟩
  have hs1 := hB.size
  have hlt1 := cu.lt
  go_wp2_with fail
  refine (spec_l1Below _ 4 _ cu (by omega) (by omega)).mono ?_
  rintro e W2 ⟨q, rfl, q0, q1, cu2, gr2⟩
  have hs2 := gr2.size
  have hlt2 : w.heap.size < W2.heap.size := by omega
  go_wp2_with fail
  refine (spec_l1Below _ 4 _ (cu2.below ((Below.refl _ _).alloc (Nat.le_refl _) _) hlt2) (by omega) (by omega)).mono ?_
  rintro e W3 ⟨p, rfl, p0, p1, cu3, gr3⟩
  have om : OwnM 3 30 W3 W2.heap.size W3.heap.size (some ⟨W2.heap.size, 0, none⟩) 0 0 [] := ((OwnM.lit (Nat.le_refl _) (Nat.le_refl _)).grown gr3 (ne_cur hlt2)).more (Nat.le_refl _) (by have := gr3.size; simpa using this)
  have gr : W2.grownBy W3 (some w.heap.size) := World.grownBy.trans (World.grownBy_alloc _ _ _) gr3
  replace hB := hB.grown gr2 hs1 (fun k hk => by injection hk with hk; omega)
  clear cu cu2 gr2 gr3
  obtain ⟨m, rfl⟩ := Int.eq_ofNat_of_zero_le p0
  go_wp2_with fail
  go_loopw [6, 8] (fun v i wr => ∃ (k : Nat) (A1 : Option Addr) (c1 : Nat) (R : List (List Int)), k ≤ m ∧ i = .int .i64 k ∧ v = .slice A1 k c1 ∧ OwnM 3 30 wr W2.heap.size wr.heap.size A1 k c1 R ∧ Nc.rowsLe 100 R ∧ Cur wr w.heap.size ∧ W2.grownBy wr (some w.heap.size)) (fun _ i _ => m - (intOf i).toNat)
  case atStart => exact ⟨0, _, _, [], Nat.zero_le _, rfl, rfl, om, Nc.rowsLe_nil _, cu3, gr⟩
  case round =>
    clear om gr cu3
    obtain ⟨k, A1, c1, R, hk, rfl, rfl, hown, hall, cu, gr⟩ := hrel
    have hsz := gr.size
    by_cases hlt : k < m
    · go_wp2_with fail
      refine (spec_l5Vector _ q _ cu q0 (by omega)).mono ?_
      rintro e V2 ⟨A2, n2, c2, zs, rfl, hn2, hz, o2, cu2, gr2⟩
      have hv2 := gr2.size
      have hl2 : zs.length ≤ 100 := by have t := o2.len; simp only [List.length_map] at t; omega
      replace hown := hown.grown gr2 (ne_cur hlt2)
      replace gr := gr.trans gr2
      clear cu gr2
      go_wp2_with (first | (at_builtin; refine wpList_appRow _ rfl _ _ _ rfl 3 30 (by decide) i0 _ 24 Try.underlying24 hi0 hz0 hz1 hz2 rfl W2.heap.size wr.heap.size wr.heap.size V2.heap.size A1 k c1 _ rfl hown A2 n2 c2 _ o2 hsz (Nat.le_refl _) (Nat.le_refl _) _ rfl (by unfold maxLen; omega) (by omega) (by omega) (by omega) ?_; intro A3 c3 w3 hown3 hb3) | fail)
      go_roundw
      case rel => exact ⟨k + 1, A3, c3, R ++ [zs], by omega, by go_num, rfl, hown3, Nc.rowsLe_snoc hall hl2, cu2.below hb3 hlt2, grown_below gr hb3⟩
      case measure => simp [intOf]; omega
    · obtain rfl : k = m := by omega
      go_wp2_with fail
      refine (spec_l1Below _ 8 _ cu (by omega) (by omega)).mono ?_
      rintro e W4 ⟨x, rfl, x0, x1, cu4, gr4⟩
      have hs4 := gr4.size
      replace hown := hown.grown gr4 (ne_cur hlt2)
      replace gr := gr.trans gr4
      clear cu gr4
      by_cases hx0 : x = 0
      · subst hx0
        go_wp2_with fail
        refine (spec_l5Any _ q _ cu4 q0 (by omega)).mono ?_
        rintro e W5 ⟨A5, n5, c5, z5, rfl, hn5, hall5, o5, cu5, gr5⟩
        have hs5 := gr5.size
        have hl5 : z5.length ≤ 100 := by have t := o5.len; simp only [List.length_map] at t; omega
        replace hown := hown.grown gr5 (ne_cur hlt2)
        replace gr := gr.trans gr5
        clear cu4 gr5
        go_wp2_with (first | (at_builtin; refine wpList_appRow _ rfl _ _ _ rfl 3 30 (by decide) i0 _ 24 Try.underlying24 hi0 hz0 hz1 hz2 rfl W2.heap.size wr.heap.size W4.heap.size W5.heap.size A1 k c1 _ rfl hown A5 n5 c5 _ o5 (by omega) hs4 (Nat.le_refl _) _ rfl (by unfold maxLen; omega) (by omega) (by omega) (by omega) ?_; intro A6 c6 w6 hown6 hb6) | fail)
        have gr6 := grown_below gr hb6
        have hs6 := hb6.size
        have cu6 := cu5.below hb6 hlt2
        clear gr cu5 hown
        refine (spec_l5Vector _ _ _ cu6 (by omega) (by omega)).mono ?_
        rintro e W7 ⟨A7, n7, c7, z7, rfl, hn7, hall7, o7, cu7, gr7⟩
        have hs7 := gr7.size
        replace hown6 := hown6.grown gr7 (ne_cur hlt2)
        replace hB := hB.grown (gr6.trans gr7) (by omega) (fun k hk => by injection hk with hk; omega)
        go_wp2_with fail
        go_ret2
        exact ⟨_, _, _, R ++ [z5], _, _, _, z7, rfl, by omega, by omega, Nc.rowsLe_snoc hall hl5, hown6.more (by omega) (by omega), o7.more (by omega) (by omega), hB⟩
      · have e0 : (x == 0) = false := by simpa using hx0
        by_cases hx1 : x = 1
        · subst hx1
          go_wp2_with fail
          refine (spec_l5Any _ _ _ cu4 (by omega) (by omega)).mono ?_
          rintro e W7 ⟨A7, n7, c7, z7, rfl, hn7, hall7, o7, cu7, gr7⟩
          have hs7 := gr7.size
          replace hown := hown.grown gr7 (ne_cur hlt2)
          replace hB := hB.grown (gr.trans gr7) (by omega) (fun k hk => by injection hk with hk; omega)
          go_wp2_with fail
          go_ret2
          exact ⟨_, _, _, R, _, _, _, z7, rfl, by omega, by omega, hall, hown.more (by omega) (by omega), o7.more (by omega) (by omega), hB⟩
        · have e1 : (x == 1) = false := by simpa using hx1
          go_wp2_with fail
          refine (spec_l5Vector _ _ _ cu4 (by omega) (by omega)).mono ?_
          rintro e W7 ⟨A7, n7, c7, z7, rfl, hn7, hall7, o7, cu7, gr7⟩
          have hs7 := gr7.size
          replace hown := hown.grown gr7 (ne_cur hlt2)
          replace hB := hB.grown (gr.trans gr7) (by omega) (fun k hk => by injection hk with hk; omega)
          go_wp2_with fail
          go_ret2
          exact ⟨_, _, _, R, _, _, _, z7, rfl, by omega, by omega, hall, hown.more (by omega) (by omega), o7.more (by omega) (by omega), hB⟩

end Go.Proofs.Ytnobbojjhehdfaa
