/- The law FnMatrices returns true for every input, and its arguments read afterwards as before. Conditions: none. -/
import Derived.Test.YtnobbojjhehdfaaRows
import Derived.WalkKit
import Derived.ProofKit
import Derived.OpenShut
import Derived.Test.YtnobbojjhehdfaaDraw5
import Derived.Test.YtnobbojjhehdfaaMulM
import Derived.Test.YtnobbojjhehdfaaPlainL
import Derived.Test.YtnobbojjhehdfaaSame
import Derived.Test.YtnobbojjhehdfaaLawkit2
import Derived.ShutString
import Derived.ChangeOld
import Derived.Below
namespace Go.Proofs.Ytnobbojjhehdfaa.fnMatrices
open Go.ChangeShapes Go.WideShapes Go.ChangeAt Go.RowKit
open Go.ChangeMaps (open_string shut_string)
set_option linter.unusedVariables false

theorem own : ownKnob Try.prog.godebug = none := by kernel_rfl
theorem laidOut : laidOutB Try.prog = true := by kernel_rfl

/-- WHAT THE WALK IS TOLD OF A SLICE OF INTEGERS THAT CAME IN: it is nil; or it leads to a row of 'cap' cells, the numbers 'zs' (the first 'len' are its elements, the rest its spare room), each fitting its kind. -/
def IsRow (k : IntKind) (w : World) (a : Option Addr) (len cap : Nat) (zs : List Int) : Prop :=
  (a = none ∧ len = 0 ∧ cap = 0 ∧ zs = []) ∨
  ∃ x, a = some x ∧ len ≤ cap ∧ cap ≤ maxLen ∧ zs.length = cap ∧ (∀ i, i < zs.length → w.cell? (x.add i) = some (.int k (zs.getD i 0))) ∧ ∀ n ∈ zs, (Lit.int k n).wf = true

/-! ### STEP 1: THE WALK: the Go text returns true, AND WRITES NOTHING THAT WAS THERE: 'Below w.heap.size w w'' (Derived/Below.lean: '.refl', '.alloc', '.drew', '.setCell' at a new block, '.trans'). Open each 'IsRow' by 'rcases' AHEAD of 'go_enter'; part every test ahead of the walk. -/
set_option maxRecDepth 100000 in
set_option maxHeartbeats 4000000 in
theorem walk (a0 : Option Addr) (len0 cap0 : Nat) (z0 : List Int) (w : World) (w0 : IsRow .u8 w a0 len0 cap0 z0) :
    Calls Try.prog 3 #[.slice a0 len0 cap0] w fun e w' => e = .returned (.bool true) ∧ Below w.heap.size w w' := by
  obtain ⟨i0, hi0, hz0, hz1, hz2⟩ := info_parts Try.info_int
  obtain ⟨xs, hr, hv, hlc, hcm⟩ := rd_of_row w0
  have HZ := Lib.hid (show ∀ x ∈ xs, 0 ≤ x ∧ x ≤ 255 from fun x hx => bounds_u8 (hv x hx))
  clear w0 hv hcm
  by_cases hn : len0 ≤ 1048576
  rotate_left
  · have HBIG := Lib.hid (show decide ((1048576 : Int) < len0) = true by simp; omega)
    go_enter Try.func3, Try.ntmps3
    go_wp2_with fail
    refine (laws_big _ _ _ _).mono ?_
    rintro e w' ⟨rfl, rfl⟩
    rw [HBIG.out]
    go_wp2_with fail
    go_ret
    exact ⟨rfl, Below.refl _ _⟩
  have HBIG := Lib.hid (show decide ((1048576 : Int) < len0) = false by simp; omega)
  have hB : Below w.heap.size w w := Below.refl _ _
  go_enter Try.func3, Try.ntmps3
  go_wp2_with fail
  refine (laws_big _ _ _ _).mono ?_
  rintro e w' ⟨rfl, rfl⟩
  rw [HBIG.out]
  go_wp2_with fail
  refine (spec_DrawMulMatrices _ _ _ xs _ hr HZ.out hn).mono ?_
  rintro e W1 ⟨Aa, na, ca, Ra, Ab, nb, cb, Rb, rfl, hna, hnb, hrowa, hrowb, oa, ob, hb⟩
  replace hr := hr.below hb (by omega)
  have hs1 := hb.size
  replace hB := hB.trans (hb.mono (by omega))
  clear hb
  have HLA := Lib.hid oa.len
  have HLB := Lib.hid ob.len
  have QA := Lib.hid (show ∀ xs ∈ Ra, xs.length ≤ 9223372036854775806 from fun xs hxs => Nat.le_trans (hrowa xs hxs) (by decide))
  have QB := Lib.hid (show ∀ xs ∈ Rb, xs.length ≤ 9223372036854775806 from fun xs hxs => Nat.le_trans (hrowb xs hxs) (by decide))
  clear hrowa hrowb
  go_wp2_with fail
  refine (impl_MulMatrices _ _ _ _ _ _ Ra Rb _ (oa.rdm.more (by omega)) (ob.rdm.more (by omega)) (by omega) (by omega) QA.out QB.out).mono ?_
  rintro e W2 ⟨Ap, np, cp, rfl, op, hb⟩
  replace hr := hr.below hb (by omega)
  replace oa := oa.below hb (by omega)
  replace ob := ob.below hb (by omega)
  have hs2 := hb.size
  replace hB := hB.trans (hb.mono (by omega))
  clear hb
  have lnp : np ≤ 40 := by have q := op.len; have t := Nc.mulL_len Ra Rb; omega
  cases va : Nc.matB Ra
  · have E := Nc.mulL_no (a := Ra) (b := Rb) (.inl va)
    obtain rfl : np = 0 := by have q := op.len; rw [E] at q; simpa using q.symm
    have HA := Lib.hid va
    clear E va
    go_wp2_with fail
    refine (spec_IsValidMatrix _ _ _ Ra _ (oa.rdm.more (by omega)) (by omega) QA.out).mono ?_
    rintro e W3 ⟨rfl, hqt⟩
    have hb := hqt.below
    replace hr := hr.below hb (by omega)
    replace oa := oa.below hb (by omega)
    replace ob := ob.below hb (by omega)
    replace op := op.below hb (by omega)
    have hs3 := hb.size
    replace hB := hB.trans (hb.mono (by omega))
    clear hb
    clear hqt
    rw [HA.out]
    go_wp2_with fail
    go_ret
    exact ⟨rfl, hB⟩
  · cases vb : Nc.matB Rb
    · have E := Nc.mulL_no (a := Ra) (b := Rb) (.inr (.inl vb))
      obtain rfl : np = 0 := by have q := op.len; rw [E] at q; simpa using q.symm
      have HA := Lib.hid va
      clear E va
      go_wp2_with fail
      refine (spec_IsValidMatrix _ _ _ Ra _ (oa.rdm.more (by omega)) (by omega) QA.out).mono ?_
      rintro e W3 ⟨rfl, hqt⟩
      have hb := hqt.below
      replace hr := hr.below hb (by omega)
      replace oa := oa.below hb (by omega)
      replace ob := ob.below hb (by omega)
      replace op := op.below hb (by omega)
      have hs3 := hb.size
      replace hB := hB.trans (hb.mono (by omega))
      clear hb
      clear hqt
      rw [HA.out]
      have HB := Lib.hid vb
      clear vb
      go_wp2_with fail
      refine (spec_IsValidMatrix _ _ _ Rb _ (ob.rdm.more (by omega)) (by omega) QB.out).mono ?_
      rintro e W4 ⟨rfl, hqt⟩
      have hb := hqt.below
      replace hr := hr.below hb (by omega)
      replace oa := oa.below hb (by omega)
      replace ob := ob.below hb (by omega)
      replace op := op.below hb (by omega)
      have hs4 := hb.size
      replace hB := hB.trans (hb.mono (by omega))
      clear hb
      clear hqt
      rw [HB.out]
      go_wp2_with fail
      go_ret
      exact ⟨rfl, hB⟩
    · by_cases hab : Nc.cols Ra = nb
      rotate_left
      · have E := Nc.mulL_no (a := Ra) (b := Rb) (.inr (.inr (by rw [HLB.out]; exact hab)))
        obtain rfl : np = 0 := by have q := op.len; rw [E] at q; simpa using q.symm
        have HA := Lib.hid va
        clear E va
        go_wp2_with fail
        refine (spec_IsValidMatrix _ _ _ Ra _ (oa.rdm.more (by omega)) (by omega) QA.out).mono ?_
        rintro e W3 ⟨rfl, hqt⟩
        have hb := hqt.below
        replace hr := hr.below hb (by omega)
        replace oa := oa.below hb (by omega)
        replace ob := ob.below hb (by omega)
        replace op := op.below hb (by omega)
        have hs3 := hb.size
        replace hB := hB.trans (hb.mono (by omega))
        clear hb
        clear hqt
        rw [HA.out]
        have HB := Lib.hid vb
        clear vb
        go_wp2_with fail
        refine (spec_IsValidMatrix _ _ _ Rb _ (ob.rdm.more (by omega)) (by omega) QB.out).mono ?_
        rintro e W4 ⟨rfl, hqt⟩
        have hb := hqt.below
        replace hr := hr.below hb (by omega)
        replace oa := oa.below hb (by omega)
        replace ob := ob.below hb (by omega)
        replace op := op.below hb (by omega)
        have hs4 := hb.size
        replace hB := hB.trans (hb.mono (by omega))
        clear hb
        clear hqt
        rw [HB.out]
        obtain ⟨m, hm⟩ : ∃ m, m = Nc.cols Ra := ⟨_, rfl⟩
        have HM := Lib.hid hm.symm
        have hq : ((m : Int) != nb) = true := by simp; omega
        clear hm hab
        go_wp2_with fail
        refine (spec_ColumnsOf _ _ _ Ra _ (oa.rdm.more (by omega))).mono ?_
        rintro e w' ⟨rfl, rfl⟩
        rw [HM.out]
        go_wp2_with fail
        go_ret
        exact ⟨rfl, hB⟩
      have HMB := Lib.hid (show Nc.mulB Ra Rb = true by unfold Nc.mulB; rw [va, vb, HLB.out]; simp [hab])
      obtain rfl : np = na := by have q := op.len; rw [Nc.mulL_length HMB.out, HLA.out] at q; exact q.symm
      have HAB := Lib.hid hab
      have HVA0 := Lib.hid va
      have HVB := Lib.hid vb
      have hna40 := Nc.matB_len va
      rw [HLA.out] at hna40
      have hnb40 := Nc.matB_len vb
      rw [HLB.out] at hnb40
      obtain ⟨q, hq⟩ : ∃ q, q = Nc.cols Rb := ⟨_, rfl⟩
      have hq40 : q ≤ 40 := by rw [hq]; exact Nc.cols_tab40 vb
      have HQ := Lib.hid hq.symm
      have hq3 : ((nb : Int) != nb) = false := by simp
      clear va vb hab hq
      go_wp2_with fail
      refine (spec_IsValidMatrix _ _ _ Ra _ (oa.rdm.more (by omega)) (by omega) QA.out).mono ?_
      rintro e W3 ⟨rfl, hqt⟩
      have hb := hqt.below
      replace hr := hr.below hb (by omega)
      replace oa := oa.below hb (by omega)
      replace ob := ob.below hb (by omega)
      replace op := op.below hb (by omega)
      have hs3 := hb.size
      replace hB := hB.trans (hb.mono (by omega))
      clear hb
      clear hqt
      rw [HVA0.out]
      go_wp2_with fail
      refine (spec_IsValidMatrix _ _ _ Rb _ (ob.rdm.more (by omega)) (by omega) QB.out).mono ?_
      rintro e W4 ⟨rfl, hqt⟩
      have hb := hqt.below
      replace hr := hr.below hb (by omega)
      replace oa := oa.below hb (by omega)
      replace ob := ob.below hb (by omega)
      replace op := op.below hb (by omega)
      have hs4 := hb.size
      replace hB := hB.trans (hb.mono (by omega))
      clear hb
      clear hqt
      rw [HVB.out]
      go_wp2_with fail
      refine (spec_ColumnsOf _ _ _ Ra _ (oa.rdm.more (by omega))).mono ?_
      rintro e w' ⟨rfl, rfl⟩
      rw [HAB.out]
      go_wp2_with fail
      refine (spec_ColumnsOf _ _ _ Rb _ (ob.rdm.more (by omega))).mono ?_
      rintro e w' ⟨rfl, rfl⟩
      rw [HQ.out]
      go_wp2_with (first | (at_make; refine wpList_mk _ rfl _ _ _ rfl W4.heap.size 3 i0 .i64 Try.underlying30 hi0 hz0 hz1 .i64 .i64 _ _ q rfl rfl rfl rfl (by rw [hz2]; omega) (by unfold maxLen; omega) (Nat.le_refl _) ?_; intro wm hownm hbm) | fail)
      obtain ⟨V, hV⟩ : ∃ V, V = Nc.tab q (fun i => Nc.atV xs i) := ⟨_, rfl⟩
      have HVL := Lib.hid (show V.length = q by rw [hV, Nc.tab_len])
      have HVA := Lib.hid (show ∀ k, k < q → V[k]? = some (Nc.atV xs k) from fun k hk => by rw [hV, Nc.tab_at hk])
      have HV := Lib.hid hV
      clear hV
      go_loopw [7] (fun i wr => ∃ k : Nat, k ≤ q ∧ i = .int .i64 k ∧ wr.ownsRow W4.heap.size 3 1 (.slice (some ⟨W4.heap.size, 0, none⟩) q q) q (half .i64 V q k) ∧ Below W4.heap.size W4 wr) (fun i _ => q - (intOf i).toNat)
      case atStart => exact ⟨0, Nat.zero_le _, rfl, by rw [half_zero]; exact hownm, hbm⟩
      case round =>
        clear hownm hbm
        obtain ⟨kk, hk, rfl, hown, hbr⟩ := hrel
        have hszr := hbr.size
        by_cases hlt : kk < q
        · have hst := hown.stored kk (.int .i64 (Nc.atV xs kk))
          rw [half_next HVL.out (HVA.out kk hlt)] at hst
          have hcell := hown.cellAt kk (by omega)
          rw [half_at HVL.out hlt] at hcell
          have hfz := hown.frozenAt kk
          have hr2 : Rd wr wr.heap.size a0 len0 (xs.map (.int .u8)) := (hr.below hbr (by omega)).more (by omega)
          go_wp2_with fail
          refine (laws_at _ _ _ xs kk _ hr2 HZ.out hn (by omega)).mono ?_
          rintro e w' ⟨rfl, rfl⟩
          go_wp2_with fail
          go_roundw
          case rel => exact ⟨kk + 1, by omega, by go_num, hst.1, hbr.setCell (Nat.le_refl _) _⟩
          case measure => simp [intOf]; omega
        · obtain rfl : q = kk := by omega
          rw [half_full _ _ _ HVL.out] at hown
          have ov := Own.of hown (Nat.le_refl _)
          clear hown
          have hb := hbr
          clear hbr
          replace hr := hr.below hb (by omega)
          replace oa := oa.below hb (by omega)
          replace ob := ob.below hb (by omega)
          replace op := op.below hb (by omega)
          have hs5 := hb.size
          replace hB := hB.trans (hb.mono (by omega))
          clear hb
          have HVV := Lib.hid (show Nc.vecB V = true by rw [HV.out]; exact Nc.tab_vec hq40 (fun i _ => by have := Nc.atV_bd HZ.out i; omega))
          clear hlt
          have hee : ((np : Int) == np) = true := by simp
          by_cases h0 : np = 0
          · have q0 : ((np : Int) == 0) = true := by simp [h0]
            have q1 : ¬ 0 < np := by omega
            clear h0
            go_wp2_with fail
            go_ret
            exact ⟨rfl, hB⟩
          · have q0 : ((np : Int) == 0) = false := by simpa using h0
            have hpa : 0 < np := by omega
            clear h0
            by_cases h1 : nb = 0
            · have q1 : ((nb : Int) == 0) = true := by simp [h1]
              have q2 : ¬ 0 < nb := by omega
              clear h1
              go_wp2_with fail
              refine (spec_ColumnsOf _ _ _ Ra _ (oa.rdm.more (by omega))).mono ?_
              rintro e w' ⟨rfl, rfl⟩
              rw [HAB.out]
              go_wp2_with fail
              go_ret
              exact ⟨rfl, hB⟩
            · have q1 : ((nb : Int) == 0) = false := by simpa using h1
              have hpb : 0 < nb := by omega
              clear h1
              have e0 : 0 < Ra.length := by rw [HLA.out]; exact hpa
              have e1 : 0 < Nc.cols Ra := by rw [HAB.out]; exact hpb
              have e2 : 0 < Rb.length := by rw [HLB.out]; exact hpb
              have e3 : Nc.cols Ra = Rb.length := by rw [HAB.out, HLB.out]
              have E1 := Lib.hid (Nc.mat_tr HVA0.out e0 e1)
              have E2 := Lib.hid (show Nc.mulL Ra (Nc.idL nb) = Ra by have t := Nc.mat_id_r HVA0.out e0 e1; rw [HAB.out] at t; exact t)
              have E3 := Lib.hid (show Nc.mulL (Nc.idL np) Ra = Ra by have t := Nc.mat_id_l HVA0.out e0; rw [HLA.out] at t; exact t)
              have E4 := Lib.hid (Nc.mat_assoc HVA0.out HVB.out e3 e0 e2 HVV.out (by rw [HVL.out, HQ.out]))
              have E5 := Lib.hid (fun h2 : 0 < Nc.cols Rb => Nc.mat_trmul HVA0.out HVB.out e3 e0 e2 h2)
              clear e0 e1 e2 e3
              go_wp2_with fail
              refine (spec_ColumnsOf _ _ _ Ra _ (oa.rdm.more (by omega))).mono ?_
              rintro e w' ⟨rfl, rfl⟩
              rw [HAB.out]
              go_wp2_with fail
              refine (impl_Transpose _ _ _ Ra _ (oa.rdm.more (by omega)) (by omega) QA.out).mono ?_
              rintro e W6 ⟨At, nt, ct, rfl, ot, hb⟩
              replace hr := hr.below hb (by omega)
              replace oa := oa.below hb (by omega)
              replace ob := ob.below hb (by omega)
              replace op := op.below hb (by omega)
              replace ov := ov.below hb (by omega)
              have hs6 := hb.size
              replace hB := hB.trans (hb.mono (by omega))
              clear hb
              have lnt : nt ≤ 40 := by have q := ot.len; have t := Nc.trL_len Ra; omega
              go_wp2_with fail
              refine (impl_Transpose _ _ _ (Nc.trL Ra) _ (ot.rdm.more (by omega)) (by omega) (fun xs hxs => Nat.le_trans (Nc.trL_row Ra xs hxs) (by decide))).mono ?_
              rintro e W7 ⟨Au, nu, cu, rfl, ou, hb⟩
              replace hr := hr.below hb (by omega)
              replace oa := oa.below hb (by omega)
              replace ob := ob.below hb (by omega)
              replace op := op.below hb (by omega)
              replace ov := ov.below hb (by omega)
              replace ot := ot.below hb (by omega)
              have hs7 := hb.size
              replace hB := hB.trans (hb.mono (by omega))
              clear hb
              have lnu : nu ≤ 40 := by have q := ou.len; have t := Nc.trL_len (Nc.trL Ra); omega
              rw [E1.out] at ou
              go_wp2_with fail
              refine (laws_sameRows _ _ _ _ _ _ Ra Ra _ (ou.rdm.more (by omega)) (oa.rdm.more (by omega)) (by omega) (by omega) QA.out QA.out).mono ?_
              rintro e W8 ⟨rfl, hqt⟩
              have hb := hqt.below
              replace hr := hr.below hb (by omega)
              replace oa := oa.below hb (by omega)
              replace ob := ob.below hb (by omega)
              replace op := op.below hb (by omega)
              replace ov := ov.below hb (by omega)
              replace ot := ot.below hb (by omega)
              replace ou := ou.below hb (by omega)
              have hs8 := hb.size
              replace hB := hB.trans (hb.mono (by omega))
              clear hb
              clear hqt
              rw [show decide (Ra = Ra) = true from decide_eq_true rfl]
              clear ot
              clear ou
              go_wp2_with fail
              refine (spec_ColumnsOf _ _ _ Ra _ (oa.rdm.more (by omega))).mono ?_
              rintro e w' ⟨rfl, rfl⟩
              rw [HAB.out]
              go_wp2_with fail
              refine (impl_Identity _ _).mono ?_
              rintro e W9 ⟨Ai, ni, ci, rfl, oi, hb⟩
              replace hr := hr.below hb (by omega)
              replace oa := oa.below hb (by omega)
              replace ob := ob.below hb (by omega)
              replace op := op.below hb (by omega)
              replace ov := ov.below hb (by omega)
              have hs9 := hb.size
              replace hB := hB.trans (hb.mono (by omega))
              clear hb
              have lni : ni ≤ 40 := by have q := oi.len; have t := Nc.idL_len nb; omega
              go_wp2_with fail
              refine (impl_MulMatrices _ _ _ _ _ _ Ra (Nc.idL nb) _ (oa.rdm.more (by omega)) (oi.rdm.more (by omega)) (by omega) (by omega) QA.out (fun xs hxs => Nat.le_trans (Nc.idL_row nb xs hxs) (by decide))).mono ?_
              rintro e W10 ⟨Aj, nj, cj, rfl, oj, hb⟩
              replace hr := hr.below hb (by omega)
              replace oa := oa.below hb (by omega)
              replace ob := ob.below hb (by omega)
              replace op := op.below hb (by omega)
              replace ov := ov.below hb (by omega)
              replace oi := oi.below hb (by omega)
              have hs10 := hb.size
              replace hB := hB.trans (hb.mono (by omega))
              clear hb
              have lnj : nj ≤ 40 := by have q := oj.len; have t := Nc.mulL_len Ra (Nc.idL nb); omega
              rw [E2.out] at oj
              go_wp2_with fail
              refine (laws_sameRows _ _ _ _ _ _ Ra Ra _ (oj.rdm.more (by omega)) (oa.rdm.more (by omega)) (by omega) (by omega) QA.out QA.out).mono ?_
              rintro e W11 ⟨rfl, hqt⟩
              have hb := hqt.below
              replace hr := hr.below hb (by omega)
              replace oa := oa.below hb (by omega)
              replace ob := ob.below hb (by omega)
              replace op := op.below hb (by omega)
              replace ov := ov.below hb (by omega)
              replace oi := oi.below hb (by omega)
              replace oj := oj.below hb (by omega)
              have hs11 := hb.size
              replace hB := hB.trans (hb.mono (by omega))
              clear hb
              clear hqt
              rw [show decide (Ra = Ra) = true from decide_eq_true rfl]
              clear oi
              clear oj
              go_wp2_with fail
              refine (impl_Identity _ _).mono ?_
              rintro e W12 ⟨Ai, ni, ci, rfl, oi, hb⟩
              replace hr := hr.below hb (by omega)
              replace oa := oa.below hb (by omega)
              replace ob := ob.below hb (by omega)
              replace op := op.below hb (by omega)
              replace ov := ov.below hb (by omega)
              have hs12 := hb.size
              replace hB := hB.trans (hb.mono (by omega))
              clear hb
              have lni : ni ≤ 40 := by have q := oi.len; have t := Nc.idL_len np; omega
              go_wp2_with fail
              refine (impl_MulMatrices _ _ _ _ _ _ (Nc.idL np) Ra _ (oi.rdm.more (by omega)) (oa.rdm.more (by omega)) (by omega) (by omega) (fun xs hxs => Nat.le_trans (Nc.idL_row np xs hxs) (by decide)) QA.out).mono ?_
              rintro e W13 ⟨Aj, nj, cj, rfl, oj, hb⟩
              replace hr := hr.below hb (by omega)
              replace oa := oa.below hb (by omega)
              replace ob := ob.below hb (by omega)
              replace op := op.below hb (by omega)
              replace ov := ov.below hb (by omega)
              replace oi := oi.below hb (by omega)
              have hs13 := hb.size
              replace hB := hB.trans (hb.mono (by omega))
              clear hb
              have lnj : nj ≤ 40 := by have q := oj.len; have t := Nc.mulL_len (Nc.idL np) Ra; omega
              rw [E3.out] at oj
              go_wp2_with fail
              refine (laws_sameRows _ _ _ _ _ _ Ra Ra _ (oj.rdm.more (by omega)) (oa.rdm.more (by omega)) (by omega) (by omega) QA.out QA.out).mono ?_
              rintro e W14 ⟨rfl, hqt⟩
              have hb := hqt.below
              replace hr := hr.below hb (by omega)
              replace oa := oa.below hb (by omega)
              replace ob := ob.below hb (by omega)
              replace op := op.below hb (by omega)
              replace ov := ov.below hb (by omega)
              replace oi := oi.below hb (by omega)
              replace oj := oj.below hb (by omega)
              have hs14 := hb.size
              replace hB := hB.trans (hb.mono (by omega))
              clear hb
              clear hqt
              rw [show decide (Ra = Ra) = true from decide_eq_true rfl]
              clear oi
              clear oj
              by_cases h2 : q = 0
              · have q2 : ((q : Int) == 0) = true := by simp [h2]
                clear h2
                go_wp2_with fail
                go_ret
                exact ⟨rfl, hB⟩
              · have q2 : ((q : Int) == 0) = false := by simpa using h2
                have E6 := Lib.hid (E5.out (by rw [HQ.out]; omega))
                clear h2
                go_wp2_with fail
                refine (impl_MulMatrixVector _ _ _ _ _ _ (Nc.mulL Ra Rb) V _ (op.rdm.more (by omega)) (ov.rd.more (by omega)) (by omega) (by omega) (fun xs hxs => Nat.le_trans (Nc.mulL_row Ra Rb xs hxs) (by decide))).mono ?_
                rintro e W15 ⟨As, ns, cs, rfl, os, hb⟩
                replace hr := hr.below hb (by omega)
                replace oa := oa.below hb (by omega)
                replace ob := ob.below hb (by omega)
                replace op := op.below hb (by omega)
                replace ov := ov.below hb (by omega)
                have hs15 := hb.size
                replace hB := hB.trans (hb.mono (by omega))
                clear hb
                have lns : ns ≤ 40 := by have q := os.len; simp only [List.length_map] at q; have t := Nc.mulMV_len (Nc.mulL Ra Rb) V; omega
                rw [E4.out] at os
                go_wp2_with fail
                refine (impl_MulMatrixVector _ _ _ _ _ _ Rb V _ (ob.rdm.more (by omega)) (ov.rd.more (by omega)) (by omega) (by omega) QB.out).mono ?_
                rintro e W16 ⟨Ak, nk, ck, rfl, ok, hb⟩
                replace hr := hr.below hb (by omega)
                replace oa := oa.below hb (by omega)
                replace ob := ob.below hb (by omega)
                replace op := op.below hb (by omega)
                replace ov := ov.below hb (by omega)
                replace os := os.below hb (by omega)
                have hs16 := hb.size
                replace hB := hB.trans (hb.mono (by omega))
                clear hb
                have lnk : nk ≤ 40 := by have q := ok.len; simp only [List.length_map] at q; have t := Nc.mulMV_len Rb V; omega
                go_wp2_with fail
                refine (impl_MulMatrixVector _ _ _ _ _ _ Ra (Nc.mulMV Rb V) _ (oa.rdm.more (by omega)) (ok.rd.more (by omega)) (by omega) (by omega) QA.out).mono ?_
                rintro e W17 ⟨Al, nl, cl, rfl, ol, hb⟩
                replace hr := hr.below hb (by omega)
                replace oa := oa.below hb (by omega)
                replace ob := ob.below hb (by omega)
                replace op := op.below hb (by omega)
                replace ov := ov.below hb (by omega)
                replace os := os.below hb (by omega)
                replace ok := ok.below hb (by omega)
                have hs17 := hb.size
                replace hB := hB.trans (hb.mono (by omega))
                clear hb
                have lnl : nl ≤ 40 := by have q := ol.len; simp only [List.length_map] at q; have t := Nc.mulMV_len Ra (Nc.mulMV Rb V); omega
                go_wp2_with fail
                refine (laws_sameInts _ _ _ _ _ _ (Nc.mulMV Ra (Nc.mulMV Rb V)) (Nc.mulMV Ra (Nc.mulMV Rb V)) _ (os.rd.more (by omega)) (ol.rd.more (by omega)) (by omega) (by omega)).mono ?_
                rintro e W18 ⟨rfl, hb⟩
                replace hr := hr.below hb (by omega)
                replace oa := oa.below hb (by omega)
                replace ob := ob.below hb (by omega)
                replace op := op.below hb (by omega)
                replace ov := ov.below hb (by omega)
                replace os := os.below hb (by omega)
                replace ok := ok.below hb (by omega)
                replace ol := ol.below hb (by omega)
                have hs18 := hb.size
                replace hB := hB.trans (hb.mono (by omega))
                clear hb
                rw [show decide (Nc.mulMV Ra (Nc.mulMV Rb V) = Nc.mulMV Ra (Nc.mulMV Rb V)) = true from decide_eq_true rfl]
                clear os
                clear ok
                clear ol
                go_wp2_with fail
                refine (impl_Transpose _ _ _ (Nc.mulL Ra Rb) _ (op.rdm.more (by omega)) (by omega) (fun xs hxs => Nat.le_trans (Nc.mulL_row Ra Rb xs hxs) (by decide))).mono ?_
                rintro e W19 ⟨At, nt, ct, rfl, ot, hb⟩
                replace hr := hr.below hb (by omega)
                replace oa := oa.below hb (by omega)
                replace ob := ob.below hb (by omega)
                replace op := op.below hb (by omega)
                replace ov := ov.below hb (by omega)
                have hs19 := hb.size
                replace hB := hB.trans (hb.mono (by omega))
                clear hb
                have lnt : nt ≤ 40 := by have q := ot.len; have t := Nc.trL_len (Nc.mulL Ra Rb); omega
                rw [E6.out] at ot
                go_wp2_with fail
                refine (impl_Transpose _ _ _ Rb _ (ob.rdm.more (by omega)) (by omega) QB.out).mono ?_
                rintro e W20 ⟨Au, nu, cu, rfl, ou, hb⟩
                replace hr := hr.below hb (by omega)
                replace oa := oa.below hb (by omega)
                replace ob := ob.below hb (by omega)
                replace op := op.below hb (by omega)
                replace ov := ov.below hb (by omega)
                replace ot := ot.below hb (by omega)
                have hs20 := hb.size
                replace hB := hB.trans (hb.mono (by omega))
                clear hb
                have lnu : nu ≤ 40 := by have q := ou.len; have t := Nc.trL_len Rb; omega
                go_wp2_with fail
                refine (impl_Transpose _ _ _ Ra _ (oa.rdm.more (by omega)) (by omega) QA.out).mono ?_
                rintro e W21 ⟨Ax, nx, cx, rfl, ox, hb⟩
                replace hr := hr.below hb (by omega)
                replace oa := oa.below hb (by omega)
                replace ob := ob.below hb (by omega)
                replace op := op.below hb (by omega)
                replace ov := ov.below hb (by omega)
                replace ot := ot.below hb (by omega)
                replace ou := ou.below hb (by omega)
                have hs21 := hb.size
                replace hB := hB.trans (hb.mono (by omega))
                clear hb
                have lnx : nx ≤ 40 := by have q := ox.len; have t := Nc.trL_len Ra; omega
                go_wp2_with fail
                refine (impl_MulMatrices _ _ _ _ _ _ (Nc.trL Rb) (Nc.trL Ra) _ (ou.rdm.more (by omega)) (ox.rdm.more (by omega)) (by omega) (by omega) (fun xs hxs => Nat.le_trans (Nc.trL_row Rb xs hxs) (by decide)) (fun xs hxs => Nat.le_trans (Nc.trL_row Ra xs hxs) (by decide))).mono ?_
                rintro e W22 ⟨Ay, ny, cy, rfl, oy, hb⟩
                replace hr := hr.below hb (by omega)
                replace oa := oa.below hb (by omega)
                replace ob := ob.below hb (by omega)
                replace op := op.below hb (by omega)
                replace ov := ov.below hb (by omega)
                replace ot := ot.below hb (by omega)
                replace ou := ou.below hb (by omega)
                replace ox := ox.below hb (by omega)
                have hs22 := hb.size
                replace hB := hB.trans (hb.mono (by omega))
                clear hb
                have lny : ny ≤ 40 := by have q := oy.len; have t := Nc.mulL_len (Nc.trL Rb) (Nc.trL Ra); omega
                go_wp2_with fail
                refine (laws_sameRows _ _ _ _ _ _ (Nc.mulL (Nc.trL Rb) (Nc.trL Ra)) (Nc.mulL (Nc.trL Rb) (Nc.trL Ra)) _ (ot.rdm.more (by omega)) (oy.rdm.more (by omega)) (by omega) (by omega) (fun xs hxs => Nat.le_trans (Nc.mulL_row (Nc.trL Rb) (Nc.trL Ra) xs hxs) (by decide)) (fun xs hxs => Nat.le_trans (Nc.mulL_row (Nc.trL Rb) (Nc.trL Ra) xs hxs) (by decide))).mono ?_
                rintro e W23 ⟨rfl, hqt⟩
                have hb := hqt.below
                replace hr := hr.below hb (by omega)
                replace oa := oa.below hb (by omega)
                replace ob := ob.below hb (by omega)
                replace op := op.below hb (by omega)
                replace ov := ov.below hb (by omega)
                replace ot := ot.below hb (by omega)
                replace ou := ou.below hb (by omega)
                replace ox := ox.below hb (by omega)
                replace oy := oy.below hb (by omega)
                have hs23 := hb.size
                replace hB := hB.trans (hb.mono (by omega))
                clear hb
                clear hqt
                rw [show decide (Nc.mulL (Nc.trL Rb) (Nc.trL Ra) = Nc.mulL (Nc.trL Rb) (Nc.trL Ra)) = true from decide_eq_true rfl]
                go_wp2_with fail
                go_ret
                exact ⟨rfl, hB⟩

/-! ### THE ROW's STEP: WRITTEN OUT: LEAVE IT -/
set_option maxRecDepth 100000 in
theorem lifted (os : Os) (started : os.Started) (H : Type) (enc : TypeId × Value → H) :
    ReturnsInHanded {} Try.checked os 3 .any (Rows.fnMatricesSpec.pre6 enc Try.prog Try.f3 Rows.fnMatricesRow.domain false) (Rows.fnMatricesSpec.post enc Try.prog Try.f3 false true false false) := by
  refine returnsInHanded_of_change (C := Try.checked) own started (by kernel_rfl) Try.func3
    (ChangeSpec.witness6 (enc := enc) (C := Try.checked) false ⟨#[], #[.slice none 0 0], []⟩ 8 (by kernel_rfl) (by kernel_rfl) (by kernel_rfl) (by kernel_rfl)) ?_
  intro W base args ds gs before hval0 hW hcnd _
  have hval : ∀ (j : Nat) t v, Try.f3.params[j]? = some t → args[j]? = some v → Value.okWide Try.prog W .any base t v := hval0
  have hW' := hW
  obtain ⟨p, q, hA0, hV, rfl, hfz, hnd⟩ := hW
  have hA : DataW.TrodAll enc Try.prog W 0 (fun _ => true) true Try.f3.params.toList args.toList ds p := hA0
  rw [Try.params3] at hA hval
  obtain ⟨v0, vs0, d0, ds0, p0, q0, hargs, rfl, rfl, h0, r0⟩ := trodAll_cons hA
  obtain ⟨rfl, rfl, rfl⟩ := trodAll_nil r0
  obtain rfl : args = #[v0] := by cases args; simp_all
  obtain ⟨rfl, rfl⟩ := trodVars_none hV
  obtain ⟨a0, len0, cap0, rfl⟩ := okWide_slice Try.underlying22 (hval 0 22 v0 rfl rfl)
  have k0 := h0
  have lt0 : ∀ x ∈ p0, x.block < W.heap.size := by obtain ⟨m, hm⟩ := k0; exact DataW.trod_lt m _ _ _ hm
  obtain ⟨z0, w0⟩ : ∃ zs, IsRow .u8 W a0 len0 cap0 zs := by
    obtain ⟨fuel, hf⟩ := h0
    rcases open_ints Try.underlying22 Try.underlying5 (by kernel_rfl) hf with ⟨hcs, _⟩ | ⟨x, l, c, zs, hcs, _, hl, hm, hz, _, hcell, hwz⟩
    · simp [Value.cells] at hcs
      obtain ⟨rfl, rfl, rfl⟩ := hcs
      exact ⟨[], .inl ⟨rfl, rfl, rfl, rfl⟩⟩
    · simp [Value.cells] at hcs
      obtain ⟨rfl, rfl, rfl⟩ := hcs
      exact ⟨zs, .inr ⟨_, rfl, hl, hm, by simpa using hz, hcell, hwz⟩⟩
  clear hA0 hval0
  refine (walk a0 len0 cap0 z0 W w0).mono fun e W' ⟨he, bel⟩ => ?_
  subst he
  exact ⟨_, rfl, _, _, _, [], _, [], hW', trodAll_mk1 (shut_bool Try.underlying4 _), (trodAll_cons_mk (Below.trod laidOut (by kernel_rfl) (of_decide_eq_true (by kernel_rfl)) k0 bel lt0) trodAll_mk0), rfl, bel.frame _, fun h => by cases h⟩

theorem over : Rows.fnMatricesRow.holds Try.pinned (OpenSpec.ofChange Rows.fnMatricesSpec) :=
  OpenClaim.holds_of_wide 3 Try.f3 rfl rfl rfl rfl rfl rfl rfl ⟨rfl, rfl, rfl, rfl, rfl⟩ rfl rfl rfl rfl rfl (by kernel_rfl) Try.func3 (by kernel_rfl)
    (of_decide_eq_true (by kernel_rfl)) (by unfold Func.isWrapper; first | (rw [if_pos (by decide +kernel)]; kernel_rfl) | (rw [if_neg (by decide +kernel)]; exact ⟨rfl, rfl⟩))
    (fun os started H enc _ => lifted os started H enc)

/-- ████ THE STATEMENT ████ -/
theorem proved : Rows.FnMatricesSaid := over
#print axioms proved
end Go.Proofs.Ytnobbojjhehdfaa.fnMatrices
