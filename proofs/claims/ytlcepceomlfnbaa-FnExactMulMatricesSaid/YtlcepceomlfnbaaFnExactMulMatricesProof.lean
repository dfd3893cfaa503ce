/- The law FnExactMulMatrices returns true for every input, and its arguments read afterwards as before. Conditions: none. -/
import Derived.Test.YtlcepceomlfnbaaRows
import Derived.WalkKit
import Derived.ProofKit
import Derived.OpenShut
import Derived.Test.YtlcepceomlfnbaaMulM
import Derived.Test.YtlcepceomlfnbaaLawkit2
import Derived.ShutString
import Derived.ChangeOld
import Derived.Below
import Derived.Deep.Matrix
import Derived.Test.YtlcepceomlfnbaaLawkit2
namespace Go.Proofs.Ytlcepceomlfnbaa.fnExactMulMatrices
open Go.ChangeShapes Go.WideShapes Go.ChangeAt Go.RowKit Go.Deep
set_option linter.unusedVariables false

theorem own : ownKnob Try.prog.godebug = none := by kernel_rfl
theorem laidOut : laidOutB Try.prog = true := by kernel_rfl

/-- What the walk is told of a slice of integers that came in. -/
def IsRow (k : IntKind) (w : World) (a : Option Addr) (len cap : Nat) (zs : List Int) : Prop :=
  (a = none ∧ len = 0 ∧ cap = 0 ∧ zs = []) ∨
  ∃ x, a = some x ∧ len ≤ cap ∧ cap ≤ maxLen ∧ zs.length = cap ∧ (∀ i, i < zs.length → w.cell? (x.add i) = some (.int k (zs.getD i 0))) ∧ ∀ n ∈ zs, (Lit.int k n).wf = true

/-! ### STEP 1: the walk -/
theorem walk (a0 : Option Addr) (len0 cap0 : Nat) (z0 : List (List Int)) (a1 : Option Addr) (len1 cap1 : Nat) (z1 : List (List Int)) (w : World) (w0 : IsMat w a0 len0 cap0 z0) (w1 : IsMat w a1 len1 cap1 z1) :
    Calls Try.prog 13 #[.slice a0 len0 cap0, .slice a1 len1 cap1] w fun e w' => e = .returned (.bool true) ∧ Below w.heap.size w w' := by
  obtain ⟨r0, hlc0, hcm0, v0⟩ := w0
  have V0 := Lib.hid v0
  clear v0
  obtain ⟨r1, hlc1, hcm1, v1⟩ := w1
  have V1 := Lib.hid v1
  clear v1
  have hB : Below w.heap.size w w := Below.refl _ _
  have ll0 := Lib.hid r0.len
  have ll1 := Lib.hid r1.len
  by_cases hn0 : (Nc.total z0 : Int) ≤ 1048576
  rotate_left
  · have HS := Lib.hid (show Nc.szR z0 (1048576) = -1 by unfold Nc.szR; rw [if_pos (by omega)])
    go_enter Try.func13, Try.ntmps13
    go_wp2_with fail
    refine (laws_szIntSS _ _ _ _ z0 _ (r0.more (by omega)) (by omega) (by omega) (by omega)).mono ?_
    rintro e w' ⟨rfl, rfl⟩
    rw [HS.out]
    go_wp2_with fail
    go_ret
    exact ⟨rfl, hB⟩
  have HS0 := Lib.hid (show Nc.szR z0 (1048576) = 1048576 - Nc.total z0 by unfold Nc.szR; rw [if_neg (by omega)])
  have hz0 : len0 ≤ 1048576 := by have t := ll0.out; unfold Nc.total at hn0; omega
  have hc0 : Nc.cells z0 ≤ 1048576 := by unfold Nc.total at hn0; unfold Nc.cells; omega
  have HR0 := Lib.hid (show ∀ xs ∈ z0, xs.length ≤ 1048576 from fun xs hxs => by have t := Nc.total_row hxs; omega)
  have HQ0 := Lib.hid (show ∀ xs ∈ z0, xs.length ≤ 9223372036854775806 from fun xs hxs => by have t := Nc.total_row hxs; omega)
  by_cases hn1 : (Nc.total z1 : Int) ≤ 1048576 - (Nc.total z0 : Int)
  rotate_left
  · have HS := Lib.hid (show Nc.szR z1 (1048576 - (Nc.total z0 : Int)) = -1 by unfold Nc.szR; rw [if_pos (by omega)])
    go_enter Try.func13, Try.ntmps13
    go_wp2_with fail
    refine (laws_szIntSS _ _ _ _ z0 _ (r0.more (by omega)) (by omega) (by omega) (by omega)).mono ?_
    rintro e w' ⟨rfl, rfl⟩
    rw [HS0.out]
    go_wp2_with fail
    refine (laws_szIntSS _ _ _ _ z1 _ (r1.more (by omega)) (by omega) (by omega) (by omega)).mono ?_
    rintro e w' ⟨rfl, rfl⟩
    rw [HS.out]
    go_wp2_with fail
    go_ret
    exact ⟨rfl, hB⟩
  have HS1 := Lib.hid (show Nc.szR z1 (1048576 - (Nc.total z0 : Int)) = 1048576 - (Nc.total z0 : Int) - Nc.total z1 by unfold Nc.szR; rw [if_neg (by omega)])
  have hz1 : len1 ≤ 1048576 := by have t := ll1.out; unfold Nc.total at hn1; omega
  have hc1 : Nc.cells z1 ≤ 1048576 := by unfold Nc.total at hn1; unfold Nc.cells; omega
  have HR1 := Lib.hid (show ∀ xs ∈ z1, xs.length ≤ 1048576 from fun xs hxs => by have t := Nc.total_row hxs; omega)
  have HQ1 := Lib.hid (show ∀ xs ∈ z1, xs.length ≤ 9223372036854775806 from fun xs hxs => by have t := Nc.total_row hxs; omega)
  go_enter Try.func13, Try.ntmps13
  go_wp2_with fail
  refine (laws_szIntSS _ _ _ _ z0 _ (r0.more (by omega)) (by omega) (by omega) (by omega)).mono ?_
  rintro e w' ⟨rfl, rfl⟩
  rw [HS0.out]
  go_wp2_with fail
  refine (laws_szIntSS _ _ _ _ z1 _ (r1.more (by omega)) (by omega) (by omega) (by omega)).mono ?_
  rintro e w' ⟨rfl, rfl⟩
  rw [HS1.out]
  go_wp2_with fail
  refine (laws_toIntSS _ _ _ z0 _ (r0.more (by omega)) hz0 HR0.out).mono ?_
  rintro e W1 ⟨As0, ns0, cs0, rfl, os0, hb⟩
  replace r0 := r0.below hb (by omega)
  replace r1 := r1.below hb (by omega)
  replace hB := hB.trans (hb.mono (by omega))
  have hs1 := hb.size
  have lns0 : ns0 ≤ 1048576 := by have q := os0.len; have t := ll0.out; omega
  clear hb
  go_wp2_with fail
  refine (laws_toIntSS _ _ _ z1 _ (r1.more (by omega)) hz1 HR1.out).mono ?_
  rintro e W2 ⟨As1, ns1, cs1, rfl, os1, hb⟩
  replace r0 := r0.below hb (by omega)
  replace r1 := r1.below hb (by omega)
  replace os0 := os0.below hb (by omega)
  replace hB := hB.trans (hb.mono (by omega))
  have hs2 := hb.size
  have lns1 : ns1 ≤ 1048576 := by have q := os1.len; have t := ll1.out; omega
  clear hb
  go_wp2_with fail
  refine (spec_MulMatrices _ _ _ _ _ _ z0 z1 _ (os0.rdm.more (by omega)) (os1.rdm.more (by omega)) (by omega) (by omega) HQ0.out HQ1.out).mono ?_
  rintro e W3 ⟨AW, nW, cW, rfl, oW, hb⟩
  replace r0 := r0.below hb (by omega)
  replace r1 := r1.below hb (by omega)
  replace os0 := os0.below hb (by omega)
  replace os1 := os1.below hb (by omega)
  replace hB := hB.trans (hb.mono (by omega))
  have hs3 := hb.size
  have lnW : nW ≤ 1099511627776 := by have q := oW.len; have t := Nc.mulL_len z0 z1; omega
  clear hb
  clear os0
  clear os1
  go_wp2_with fail
  refine (laws_toIntSS _ _ _ z0 _ (r0.more (by omega)) hz0 HR0.out).mono ?_
  rintro e W4 ⟨Ax0, nx0, cx0, rfl, ox0, hb⟩
  replace r0 := r0.below hb (by omega)
  replace r1 := r1.below hb (by omega)
  replace oW := oW.below hb (by omega)
  replace hB := hB.trans (hb.mono (by omega))
  have hs4 := hb.size
  have lnx0 : nx0 ≤ 1048576 := by have q := ox0.len; have t := ll0.out; omega
  clear hb
  go_wp2_with fail
  refine (laws_toIntSS _ _ _ z1 _ (r1.more (by omega)) hz1 HR1.out).mono ?_
  rintro e W5 ⟨Ax1, nx1, cx1, rfl, ox1, hb⟩
  replace r0 := r0.below hb (by omega)
  replace r1 := r1.below hb (by omega)
  replace oW := oW.below hb (by omega)
  replace ox0 := ox0.below hb (by omega)
  replace hB := hB.trans (hb.mono (by omega))
  have hs5 := hb.size
  have lnx1 : nx1 ≤ 1048576 := by have q := ox1.len; have t := ll1.out; omega
  clear hb
  go_wp2_with fail
  refine (impl_MulMatrices _ _ _ _ _ _ z0 z1 _ (ox0.rdm.more (by omega)) (ox1.rdm.more (by omega)) (by omega) (by omega) HQ0.out HQ1.out).mono ?_
  rintro e W6 ⟨AG, nG, cG, rfl, oG, hb⟩
  replace r0 := r0.below hb (by omega)
  replace r1 := r1.below hb (by omega)
  replace oW := oW.below hb (by omega)
  replace ox0 := ox0.below hb (by omega)
  replace ox1 := ox1.below hb (by omega)
  replace hB := hB.trans (hb.mono (by omega))
  have hs6 := hb.size
  have lnG : nG ≤ 1099511627776 := by have q := oG.len; have t := Nc.mulL_len z0 z1; omega
  clear hb
  go_wp2_with fail
  refine (laws_eqIntSS _ _ _ _ _ _ _ _ _ (oG.rdm.more (by omega)) (oW.rdm.more (by omega)) (by omega) (by omega) (fun xs hxs => Nat.le_trans (Nc.mulL_row z0 z1 xs hxs) (by decide)) (fun xs hxs => Nat.le_trans (Nc.mulL_row z0 z1 xs hxs) (by decide))).mono ?_
  rintro e W7 ⟨rfl, hqt⟩
  have hb := hqt.below
  replace r0 := r0.below hb (by omega)
  replace r1 := r1.below hb (by omega)
  replace oW := oW.below hb (by omega)
  replace ox0 := ox0.below hb (by omega)
  replace ox1 := ox1.below hb (by omega)
  replace oG := oG.below hb (by omega)
  replace hB := hB.trans (hb.mono (by omega))
  have hs7 := hb.size
  clear hb hqt
  go_wp2_with fail
  refine (laws_toIntSS _ _ _ z0 _ (r0.more (by omega)) hz0 HR0.out).mono ?_
  rintro e W8 ⟨Ay0, ny0, cy0, rfl, oy0, hb⟩
  replace r0 := r0.below hb (by omega)
  replace r1 := r1.below hb (by omega)
  replace oW := oW.below hb (by omega)
  replace ox0 := ox0.below hb (by omega)
  replace ox1 := ox1.below hb (by omega)
  replace oG := oG.below hb (by omega)
  replace hB := hB.trans (hb.mono (by omega))
  have hs8 := hb.size
  have lny0 : ny0 ≤ 1048576 := by have q := oy0.len; have t := ll0.out; omega
  clear hb
  go_wp2_with fail
  refine (laws_eqIntSS _ _ _ _ _ _ _ _ _ (ox0.rdm.more (by omega)) (oy0.rdm.more (by omega)) (by omega) (by omega) HQ0.out HQ0.out).mono ?_
  rintro e W9 ⟨rfl, hqt⟩
  have hb := hqt.below
  replace r0 := r0.below hb (by omega)
  replace r1 := r1.below hb (by omega)
  replace oW := oW.below hb (by omega)
  replace ox0 := ox0.below hb (by omega)
  replace ox1 := ox1.below hb (by omega)
  replace oG := oG.below hb (by omega)
  replace oy0 := oy0.below hb (by omega)
  replace hB := hB.trans (hb.mono (by omega))
  have hs9 := hb.size
  clear hb hqt
  clear oy0
  go_wp2_with fail
  refine (laws_toIntSS _ _ _ z1 _ (r1.more (by omega)) hz1 HR1.out).mono ?_
  rintro e W10 ⟨Ay1, ny1, cy1, rfl, oy1, hb⟩
  replace r0 := r0.below hb (by omega)
  replace r1 := r1.below hb (by omega)
  replace oW := oW.below hb (by omega)
  replace ox0 := ox0.below hb (by omega)
  replace ox1 := ox1.below hb (by omega)
  replace oG := oG.below hb (by omega)
  replace hB := hB.trans (hb.mono (by omega))
  have hs10 := hb.size
  have lny1 : ny1 ≤ 1048576 := by have q := oy1.len; have t := ll1.out; omega
  clear hb
  go_wp2_with fail
  refine (laws_eqIntSS _ _ _ _ _ _ _ _ _ (ox1.rdm.more (by omega)) (oy1.rdm.more (by omega)) (by omega) (by omega) HQ1.out HQ1.out).mono ?_
  rintro e W11 ⟨rfl, hqt⟩
  have hb := hqt.below
  replace r0 := r0.below hb (by omega)
  replace r1 := r1.below hb (by omega)
  replace oW := oW.below hb (by omega)
  replace ox0 := ox0.below hb (by omega)
  replace ox1 := ox1.below hb (by omega)
  replace oG := oG.below hb (by omega)
  replace oy1 := oy1.below hb (by omega)
  replace hB := hB.trans (hb.mono (by omega))
  have hs11 := hb.size
  clear hb hqt
  clear oy1
  go_wp2_with fail
  refine (laws_markIntSS _ _ _ _ (1) _ _ _ ox0 (by omega) (by omega) (by omega) hc0).mono ?_
  rintro e W12 ⟨rfl, px0, hg⟩
  replace r0 := r0.wrote hg (by omega) (by omega)
  replace r1 := r1.wrote hg (by omega) (by omega)
  replace oW := oW.wrote hg (by omega)
  replace ox1 := ox1.wrote hg (by omega)
  replace oG := oG.wrote hg (by omega)
  replace hB := hB.trans (hg.below (by omega) (by omega))
  have hs12 := hg.size
  clear ox0
  have ox0 := px0
  clear px0 hg
  go_wp2_with fail
  refine (laws_markIntSS _ _ _ _ (1 + (Nc.cells z0 : Int)) _ _ _ ox1 (by omega) (by omega) (by omega) hc1).mono ?_
  rintro e W13 ⟨rfl, px1, hg⟩
  replace r0 := r0.wrote hg (by omega) (by omega)
  replace r1 := r1.wrote hg (by omega) (by omega)
  replace oW := oW.wrote hg (by omega)
  replace ox0 := ox0.wrote hg (by omega)
  replace oG := oG.wrote hg (by omega)
  replace hB := hB.trans (hg.below (by omega) (by omega))
  have hs13 := hg.size
  clear ox1
  have ox1 := px1
  clear px1 hg
  go_wp2_with fail
  refine (laws_eqIntSS _ _ _ _ _ _ _ _ _ (oG.rdm.more (by omega)) (oW.rdm.more (by omega)) (by omega) (by omega) (fun xs hxs => Nat.le_trans (Nc.mulL_row z0 z1 xs hxs) (by decide)) (fun xs hxs => Nat.le_trans (Nc.mulL_row z0 z1 xs hxs) (by decide))).mono ?_
  rintro e W14 ⟨rfl, hqt⟩
  have hb := hqt.below
  replace r0 := r0.below hb (by omega)
  replace r1 := r1.below hb (by omega)
  replace oW := oW.below hb (by omega)
  replace ox0 := ox0.below hb (by omega)
  replace ox1 := ox1.below hb (by omega)
  replace oG := oG.below hb (by omega)
  replace hB := hB.trans (hb.mono (by omega))
  have hs14 := hb.size
  clear hb hqt
  go_wp2_with fail
  refine (laws_markIntSS _ _ _ _ 1 _ _ _ oG (by omega) (by omega) (by omega) (Nat.le_trans (cells_le (Nc.mulL_len z0 z1) (Nc.mulL_row z0 z1)) (by decide))).mono ?_
  rintro e W15 ⟨rfl, pG, hg⟩
  replace r0 := r0.wrote hg (by omega) (by omega)
  replace r1 := r1.wrote hg (by omega) (by omega)
  replace oW := oW.wrote hg (by omega)
  replace ox0 := ox0.wrote hg (by omega)
  replace ox1 := ox1.wrote hg (by omega)
  replace hB := hB.trans (hg.below (by omega) (by omega))
  have hs15 := hg.size
  clear oG
  have oG := pG
  clear pG hg
  go_wp2_with fail
  refine (laws_heldIntSS _ _ _ _ 1 _ (oG.rdm.more (by omega)) (by omega) (by omega) (by omega) (Nat.le_trans (cells_le (Nc.mulL_len z0 z1) (Nc.mulL_row z0 z1)) (by decide))).mono ?_
  rintro e w' ⟨rfl, rfl⟩
  go_wp2_with fail
  refine (laws_toIntSS _ _ _ z0 _ (r0.more (by omega)) hz0 HR0.out).mono ?_
  rintro e W16 ⟨Ah0, nh0, ch0, rfl, oh0, hb⟩
  replace r0 := r0.below hb (by omega)
  replace r1 := r1.below hb (by omega)
  replace oW := oW.below hb (by omega)
  replace ox0 := ox0.below hb (by omega)
  replace ox1 := ox1.below hb (by omega)
  replace oG := oG.below hb (by omega)
  replace hB := hB.trans (hb.mono (by omega))
  have hs16 := hb.size
  have lnh0 : nh0 ≤ 1048576 := by have q := oh0.len; have t := ll0.out; omega
  clear hb
  go_wp2_with fail
  refine (laws_toIntSS _ _ _ z1 _ (r1.more (by omega)) hz1 HR1.out).mono ?_
  rintro e W17 ⟨Ah1, nh1, ch1, rfl, oh1, hb⟩
  replace r0 := r0.below hb (by omega)
  replace r1 := r1.below hb (by omega)
  replace oW := oW.below hb (by omega)
  replace ox0 := ox0.below hb (by omega)
  replace ox1 := ox1.below hb (by omega)
  replace oG := oG.below hb (by omega)
  replace oh0 := oh0.below hb (by omega)
  replace hB := hB.trans (hb.mono (by omega))
  have hs17 := hb.size
  have lnh1 : nh1 ≤ 1048576 := by have q := oh1.len; have t := ll1.out; omega
  clear hb
  go_wp2_with fail
  refine (impl_MulMatrices _ _ _ _ _ _ z0 z1 _ (oh0.rdm.more (by omega)) (oh1.rdm.more (by omega)) (by omega) (by omega) HQ0.out HQ1.out).mono ?_
  rintro e W18 ⟨AH, nH, cH, rfl, oH, hb⟩
  replace r0 := r0.below hb (by omega)
  replace r1 := r1.below hb (by omega)
  replace oW := oW.below hb (by omega)
  replace ox0 := ox0.below hb (by omega)
  replace ox1 := ox1.below hb (by omega)
  replace oG := oG.below hb (by omega)
  replace oh0 := oh0.below hb (by omega)
  replace oh1 := oh1.below hb (by omega)
  replace hB := hB.trans (hb.mono (by omega))
  have hs18 := hb.size
  have lnH : nH ≤ 1099511627776 := by have q := oH.len; have t := Nc.mulL_len z0 z1; omega
  clear hb
  go_wp2_with fail
  refine (laws_eqIntSS _ _ _ _ _ _ _ _ _ (oH.rdm.more (by omega)) (oW.rdm.more (by omega)) (by omega) (by omega) (fun xs hxs => Nat.le_trans (Nc.mulL_row z0 z1 xs hxs) (by decide)) (fun xs hxs => Nat.le_trans (Nc.mulL_row z0 z1 xs hxs) (by decide))).mono ?_
  rintro e W19 ⟨rfl, hqt⟩
  have hb := hqt.below
  replace r0 := r0.below hb (by omega)
  replace r1 := r1.below hb (by omega)
  replace oW := oW.below hb (by omega)
  replace ox0 := ox0.below hb (by omega)
  replace ox1 := ox1.below hb (by omega)
  replace oG := oG.below hb (by omega)
  replace oh0 := oh0.below hb (by omega)
  replace oh1 := oh1.below hb (by omega)
  replace oH := oH.below hb (by omega)
  replace hB := hB.trans (hb.mono (by omega))
  have hs19 := hb.size
  clear hb hqt
  go_wp2_with fail
  refine (laws_heldIntSS _ _ _ _ 1 _ (oG.rdm.more (by omega)) (by omega) (by omega) (by omega) (Nat.le_trans (cells_le (Nc.mulL_len z0 z1) (Nc.mulL_row z0 z1)) (by decide))).mono ?_
  rintro e w' ⟨rfl, rfl⟩
  go_wp2_with fail
  go_ret
  exact ⟨rfl, hB⟩

/-! ### THE ROW's STEP -/
set_option maxRecDepth 100000 in
theorem lifted (os : Os) (started : os.Started) (H : Type) (enc : TypeId × Value → H) :
    ReturnsInHanded {} Try.checked os 13 .any (Rows.fnExactMulMatricesSpec.pre6 enc Try.prog Try.f13 Rows.fnExactMulMatricesRow.domain false) (Rows.fnExactMulMatricesSpec.post enc Try.prog Try.f13 false true false false) := by
  refine returnsInHanded_of_change (C := Try.checked) own started (by kernel_rfl) Try.func13
    (ChangeSpec.witness6 (enc := enc) (C := Try.checked) false ⟨#[], #[.slice none 0 0, .slice none 0 0], []⟩ 8 (by kernel_rfl) (by kernel_rfl) (by kernel_rfl) (by kernel_rfl)) ?_
  intro W base args ds gs before hval0 hW hcnd _
  have hval : ∀ (j : Nat) t v, Try.f13.params[j]? = some t → args[j]? = some v → Value.okWide Try.prog W .any base t v := hval0
  have hW' := hW
  obtain ⟨p, q, hA0, hV, rfl, hfz, hnd⟩ := hW
  have hA : DataW.TrodAll enc Try.prog W 0 (fun _ => true) true Try.f13.params.toList args.toList ds p := hA0
  rw [Try.params13] at hA hval
  obtain ⟨v0, vs0, d0, ds0, p0, q0, hargs, rfl, rfl, h0, r0⟩ := trodAll_cons hA
  obtain ⟨v1, vs1, d1, ds1, p1, q1, rfl, rfl, rfl, h1, r1⟩ := trodAll_cons r0
  obtain ⟨rfl, rfl, rfl⟩ := trodAll_nil r1
  obtain rfl : args = #[v0, v1] := by cases args; simp_all
  obtain ⟨rfl, rfl⟩ := trodVars_none hV
  obtain ⟨a0, len0, cap0, rfl⟩ := okWide_slice Try.underlying30 (hval 0 30 v0 rfl rfl)
  have k0 := h0
  have lt0 : ∀ x ∈ p0, x.block < W.heap.size := by obtain ⟨m, hm⟩ := k0; exact DataW.trod_lt m _ _ _ hm
  obtain ⟨z0, w0⟩ : ∃ zs, IsMat W a0 len0 cap0 zs := by
    obtain ⟨fuel, hf⟩ := h0
    rcases open_int_rows Try.underlying30 Try.underlying22 Try.underlying3 (by kernel_rfl) (by kernel_rfl) hf with ⟨hcs, _⟩ | ⟨a, len, cap, A, L, C, Z, hcs, _, hl, hm, _, hcell⟩
    · simp [Value.cells] at hcs
      obtain ⟨rfl, rfl, rfl⟩ := hcs
      exact ⟨[], isMat_nil _⟩
    · simp [Value.cells] at hcs
      obtain ⟨rfl, rfl, rfl⟩ := hcs
      exact ⟨_, isMat_of hl hm hcell⟩
  obtain ⟨a1, len1, cap1, rfl⟩ := okWide_slice Try.underlying30 (hval 1 30 v1 rfl rfl)
  have k1 := h1
  have lt1 : ∀ x ∈ p1, x.block < W.heap.size := by obtain ⟨m, hm⟩ := k1; exact DataW.trod_lt m _ _ _ hm
  obtain ⟨z1, w1⟩ : ∃ zs, IsMat W a1 len1 cap1 zs := by
    obtain ⟨fuel, hf⟩ := h1
    rcases open_int_rows Try.underlying30 Try.underlying22 Try.underlying3 (by kernel_rfl) (by kernel_rfl) hf with ⟨hcs, _⟩ | ⟨a, len, cap, A, L, C, Z, hcs, _, hl, hm, _, hcell⟩
    · simp [Value.cells] at hcs
      obtain ⟨rfl, rfl, rfl⟩ := hcs
      exact ⟨[], isMat_nil _⟩
    · simp [Value.cells] at hcs
      obtain ⟨rfl, rfl, rfl⟩ := hcs
      exact ⟨_, isMat_of hl hm hcell⟩
  clear hA0 hval0
  refine (walk a0 len0 cap0 z0 a1 len1 cap1 z1 W w0 w1).mono fun e W' ⟨he, bel⟩ => ?_
  subst he
  exact ⟨_, rfl, _, _, _, [], _, [], hW', trodAll_mk1 (shut_bool Try.underlying4 _), (trodAll_cons_mk (Below.trod laidOut (by kernel_rfl) (of_decide_eq_true (by kernel_rfl)) k0 bel lt0) (trodAll_cons_mk (Below.trod laidOut (by kernel_rfl) (of_decide_eq_true (by kernel_rfl)) k1 bel lt1) trodAll_mk0)), rfl, bel.frame _, fun h => by cases h⟩

theorem over : Rows.fnExactMulMatricesRow.holds Try.pinned (OpenSpec.ofChange Rows.fnExactMulMatricesSpec) :=
  OpenClaim.holds_of_wide 13 Try.f13 rfl rfl rfl rfl rfl rfl rfl ⟨rfl, rfl, rfl, rfl, rfl⟩ rfl rfl rfl rfl rfl (by kernel_rfl) Try.func13 (by kernel_rfl)
    (of_decide_eq_true (by kernel_rfl)) (by unfold Func.isWrapper; first | (rw [if_pos (by decide +kernel)]; kernel_rfl) | (rw [if_neg (by decide +kernel)]; exact ⟨rfl, rfl⟩))
    (fun os started H enc _ => lifted os started H enc)

/-- The statement. -/
theorem proved : Rows.FnExactMulMatricesSaid := over
#print axioms proved
end Go.Proofs.Ytlcepceomlfnbaa.fnExactMulMatrices
