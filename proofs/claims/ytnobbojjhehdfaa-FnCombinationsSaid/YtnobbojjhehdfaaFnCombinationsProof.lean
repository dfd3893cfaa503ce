/- The law FnCombinations returns true for every input, and its arguments read afterwards as before. Conditions: none. -/
import Derived.Test.YtnobbojjhehdfaaRows
import Derived.WalkKit
import Derived.ProofKit
import Derived.OpenShut
import Derived.Test.YtnobbojjhehdfaaDraw5
import Derived.Test.YtnobbojjhehdfaaComb
import Derived.Test.YtnobbojjhehdfaaPlainL
import Derived.Test.YtnobbojjhehdfaaSame
import Derived.Test.YtnobbojjhehdfaaLawkit2
import Derived.ShutString
import Derived.ChangeOld
import Derived.Below
namespace Go.Proofs.Ytnobbojjhehdfaa.fnCombinations
open Go.ChangeShapes Go.WideShapes Go.ChangeAt Go.RowKit
open Go.ChangeMaps (open_string shut_string)
set_option linter.unusedVariables false

theorem own : ownKnob Try.prog.godebug = none := by kernel_rfl
theorem laidOut : laidOutB Try.prog = true := by kernel_rfl

/-- WHAT THE WALK IS TOLD OF A SLICE OF INTEGERS THAT CAME IN: it is nil; or it leads to a row of 'cap' cells, the numbers 'zs' (the first 'len' are its elements, the rest its spare room), each fitting its kind. -/
def IsRow (k : IntKind) (w : World) (a : Option Addr) (len cap : Nat) (zs : List Int) : Prop :=
  (a = none ∧ len = 0 ∧ cap = 0 ∧ zs = []) ∨
  ∃ x, a = some x ∧ len ≤ cap ∧ cap ≤ maxLen ∧ zs.length = cap ∧ (∀ i, i < zs.length → w.cell? (x.add i) = some (.int k (zs.getD i 0))) ∧ ∀ n ∈ zs, (Lit.int k n).wf = true

/-! ### STEP 1: THE WALK: the Go text returns true, AND WRITES NOTHING THAT WAS THERE: 'Below w.heap.size w w'' (Derived/Below.lean: '.refl', '.alloc', '.drew', '.setCell' at a new block, '.trans'). Open each 'IsRow' by 'rcases' AHEAD of 'go_enter'; part every test ahead of the walk. -/
set_option maxRecDepth 100000 in
set_option maxHeartbeats 4000000 in
theorem walk (a0 : Option Addr) (len0 cap0 : Nat) (z0 : List Int) (w : World) (w0 : IsRow .u8 w a0 len0 cap0 z0) :
    Calls Try.prog 10 #[.slice a0 len0 cap0] w fun e w' => e = .returned (.bool true) ∧ Below w.heap.size w w' := by
  obtain ⟨i0, hi0, hz0, hz1, hz2⟩ := info_parts Try.info_int
  obtain ⟨xs, hr, hv, hlc, hcm⟩ := rd_of_row w0
  have HZ := Lib.hid (show ∀ x ∈ xs, 0 ≤ x ∧ x ≤ 255 from fun x hx => bounds_u8 (hv x hx))
  clear w0 hv hcm
  by_cases hn : len0 ≤ 1048576
  rotate_left
  · have HBIG := Lib.hid (show decide ((1048576 : Int) < len0) = true by simp; omega)
    go_enter Try.func10, Try.ntmps10
    go_wp2_with fail
    refine (laws_big _ _ _ _).mono ?_
    rintro e w' ⟨rfl, rfl⟩
    rw [HBIG.out]
    go_wp2_with fail
    go_ret
    exact ⟨rfl, Below.refl _ _⟩
  have HBIG := Lib.hid (show decide ((1048576 : Int) < len0) = false by simp; omega)
  have hB : Below w.heap.size w w := Below.refl _ _
  go_enter Try.func10, Try.ntmps10
  go_wp2_with fail
  refine (laws_big _ _ _ _).mono ?_
  rintro e w' ⟨rfl, rfl⟩
  rw [HBIG.out]
  go_wp2_with fail
  refine (spec_DrawCombine _ _ _ xs _ hr HZ.out hn).mono ?_
  rintro e W1 ⟨Al, nl, cl, l, Ac, nc, cc, zc, rfl, hnl, hnc, hrow, ol, oc, hb⟩
  replace hr := hr.below hb (by omega)
  have hs1 := hb.size
  replace hB := hB.trans (hb.mono (by omega))
  clear hb
  have HLL := Lib.hid ol.len
  have HLC := Lib.hid (show zc.length = nc by have q := oc.len; simpa using q)
  have HQ := Lib.hid (show ∀ xs ∈ l, xs.length ≤ 9223372036854775806 from fun xs hxs => Nat.le_trans (hrow xs hxs) (by decide))
  have HR := Lib.hid (show ∀ xs ∈ l, xs.length ≤ 1048576 from fun xs hxs => Nat.le_trans (hrow xs hxs) (by decide))
  have HROW := Lib.hid hrow
  clear hrow
  go_wp2_with fail
  refine (impl_Combine _ _ _ _ _ _ l zc _ (ol.rdm.more (by omega)) (oc.rd.more (by omega)) (by omega) (by omega) HQ.out).mono ?_
  rintro e W2 ⟨Ax, nx, cx, rfl, ox, hb⟩
  replace hr := hr.below hb (by omega)
  replace ol := ol.below hb (by omega)
  replace oc := oc.below hb (by omega)
  have hs2 := hb.size
  replace hB := hB.trans (hb.mono (by omega))
  clear hb
  have lnx : nx ≤ 40 := by have q := ox.len; simp only [List.length_map] at q; have t := Nc.combL_len l zc; omega
  go_wp2_with fail
  refine (spec_Combine _ _ _ _ _ _ l zc _ (ol.rdm.more (by omega)) (oc.rd.more (by omega)) (by omega) (by omega) HR.out).mono ?_
  rintro e W3 ⟨Ay, ny, cy, rfl, oy, hb⟩
  replace hr := hr.below hb (by omega)
  replace ol := ol.below hb (by omega)
  replace oc := oc.below hb (by omega)
  replace ox := ox.below hb (by omega)
  have hs3 := hb.size
  replace hB := hB.trans (hb.mono (by omega))
  clear hb
  have lny : ny ≤ 40 := by have q := oy.len; simp only [List.length_map] at q; have t := Nc.combL_len l zc; omega
  go_wp2_with fail
  refine (laws_sameInts _ _ _ _ _ _ (Nc.combL l zc) (Nc.combL l zc) _ (ox.rd.more (by omega)) (oy.rd.more (by omega)) (by omega) (by omega)).mono ?_
  rintro e W4 ⟨rfl, hb⟩
  replace hr := hr.below hb (by omega)
  replace ol := ol.below hb (by omega)
  replace oc := oc.below hb (by omega)
  replace ox := ox.below hb (by omega)
  replace oy := oy.below hb (by omega)
  have hs4 := hb.size
  replace hB := hB.trans (hb.mono (by omega))
  clear hb
  rw [show decide (Nc.combL l zc = Nc.combL l zc) = true from decide_eq_true rfl]
  clear oy
  by_cases h0 : nl = 0
  · have q0 : ((nl : Int) == 0) = true := by simp [h0]
    clear h0
    go_wp2_with fail
    go_ret
    exact ⟨rfl, hB⟩
  · have q0 : ((nl : Int) == 0) = false := by simpa using h0
    have hp : 0 < nl := by omega
    clear h0
    by_cases h1 : nx = 0
    · have q1 : ((nx : Int) == 0) = true := by simp [h1]
      clear h1
      go_wp2_with fail
      go_ret
      exact ⟨rfl, hB⟩
    · have q1 : ((nx : Int) == 0) = false := by simpa using h1
      have HCB : Hid (Nc.combB l zc = true) := Lib.hid (by cases hcb : Nc.combB l zc with | true => rfl | false => exact absurd (show nx = 0 by have q := ox.len; rw [Nc.combL_no hcb] at q; simpa using q.symm) h1)
      clear h1
      have hnl40 : nl ≤ 40 ∧ nc ≤ nl := by have t := HCB.out; simp only [Nc.combB, Bool.and_eq_true, decide_eq_true_eq] at t; have t2 := Nc.vecB_len t.1.2; have t3 := HLL.out; have t4 := HLC.out; omega
      obtain ⟨hnl40, hncl⟩ := hnl40
      have HVC := Lib.hid (show Nc.vecB zc = true by have t := HCB.out; simp only [Nc.combB, Bool.and_eq_true, decide_eq_true_eq] at t; exact t.1.2)
      go_wp2_with fail
      refine (laws_at _ _ _ xs 0 _ (hr.more (by omega)) HZ.out hn (by omega)).mono ?_
      rintro e w' ⟨rfl, rfl⟩
      obtain ⟨t0, t1⟩ := Nc.atV_bd HZ.out 0
      generalize Nc.atV xs 0 = t at t0 t1 ⊢
      have m0 := Int.emod_nonneg t (show (nl : Int) ≠ 0 by omega)
      have m1 := Int.emod_lt_of_pos t (show (0 : Int) < nl by omega)
      obtain ⟨jj, hjj⟩ : ∃ jj, jj = t % (nl : Int) := ⟨_, rfl⟩
      rw [← hjj] at m0 m1
      have HJJ := Lib.hid hjj.symm
      clear hjj
      go_wp2_with (first | (at_make; refine wpList_mk _ rfl _ _ _ rfl W4.heap.size 3 i0 .i64 Try.underlying30 hi0 hz0 hz1 .i64 .i64 _ _ nc rfl rfl rfl rfl (by rw [hz2]; omega) (by unfold maxLen; omega) (Nat.le_refl _) ?_; intro wm hownm hbm) | fail)
      obtain ⟨V, hV⟩ : ∃ V, V = Nc.tab nc (fun i => Nc.atV xs i) := ⟨_, rfl⟩
      have HVL := Lib.hid (show V.length = nc by rw [hV, Nc.tab_len])
      have HVA := Lib.hid (show ∀ k, k < nc → V[k]? = some (Nc.atV xs k) from fun k hk => by rw [hV, Nc.tab_at hk])
      have HV := Lib.hid hV
      clear hV
      go_loopw [8] (fun i wr => ∃ k : Nat, k ≤ nc ∧ i = .int .i64 k ∧ wr.ownsRow W4.heap.size 3 1 (.slice (some ⟨W4.heap.size, 0, none⟩) nc nc) nc (half .i64 V nc k) ∧ Below W4.heap.size W4 wr) (fun i _ => nc - (intOf i).toNat)
      case atStart => exact ⟨0, Nat.zero_le _, rfl, by rw [half_zero]; exact hownm, hbm⟩
      case round =>
        clear hownm hbm
        obtain ⟨kk, hk, rfl, hown, hbr⟩ := hrel
        have hszr := hbr.size
        by_cases hlt : kk < nc
        · have hst := hown.stored kk (.int .i64 (Nc.atV xs kk))
          rw [half_next HVL.out (HVA.out kk hlt)] at hst
          have hcell := hown.cellAt kk (by omega)
          rw [half_at HVL.out hlt] at hcell
          have hfz := hown.frozenAt kk
          have hr2 : Rd wr wr.heap.size a0 len0 (xs.map (.int .u8)) := (hr.below hbr (by omega)).more (by omega)
          go_wp2_with fail
          refine (laws_at _ _ _ xs kk _ hr2 HZ.out hn (by omega)).mono ?_
          rintro e w' ⟨rfl, rfl⟩
          go_wp2_with fail
          go_roundw
          case rel => exact ⟨kk + 1, by omega, by go_num, hst.1, hbr.setCell (Nat.le_refl _) _⟩
          case measure => simp [intOf]; omega
        · obtain rfl : kk = nc := by omega
          rw [half_full _ _ _ HVL.out] at hown
          have ov := Own.of hown (Nat.le_refl _)
          clear hown
          have hb := hbr
          clear hbr
          replace hr := hr.below hb (by omega)
          replace ol := ol.below hb (by omega)
          replace oc := oc.below hb (by omega)
          replace ox := ox.below hb (by omega)
          have hs5 := hb.size
          replace hB := hB.trans (hb.mono (by omega))
          clear hb
          have HVV := Lib.hid (show Nc.vecB V = true by rw [HV.out]; exact Nc.tab_vec (by omega) (fun i _ => by have := Nc.atV_bd HZ.out i; omega))
          clear hlt
          rw [HJJ.out]
          obtain ⟨j, rfl⟩ := Int.eq_ofNat_of_zero_le m0
          obtain ⟨gl, Aj, nj, cj, ys, rfl, hys, hcell, hrowj, _⟩ := ol.rowAt (by decide) (show j < nl by omega)
          obtain ⟨gl1, gl2⟩ : w.heap.size ≤ gl ∧ gl < W1.heap.size := by obtain ⟨rs, hq1, _⟩ := ol; obtain ⟨gg, hgg, ha, hb⟩ := hq1.addr (by omega); injection hgg with hgg; injection hgg with hgg; subst hgg; exact ⟨ha, hb⟩
          have E1 := Lib.hid (show Nc.combL l (Nc.unitL nl (j : Int)) = ys by have t := Nc.comb_unit HCB.out (show j < l.length by rw [HLL.out]; omega); rw [HLL.out] at t; rw [t, List.getD_eq_getElem?_getD, hys]; rfl)
          have E2 := Lib.hid (Nc.comb_add HCB.out HVV.out (by rw [HVL.out, HLC.out]))
          have E3 := Lib.hid (Nc.comb_scale HCB.out (show Nc.elB 7 = true by decide))
          have hlj : nj ≤ 100 := by have t := hrowj.len; simp only [List.length_map] at t; have := HROW.out ys (List.mem_of_getElem? hys); omega
          have HC := Lib.hid hcell
          have OL := Lib.hid ol
          have OC := Lib.hid oc
          have OV := Lib.hid ov
          have OX := Lib.hid ox
          have OJ := Lib.hid hrowj
          have HBB := Lib.hid hB
          have HB0 := Lib.hid (Below.refl wr.heap.size wr)
          have tk0 : True := trivial
          have j0 : (0 : Int) ≤ j := by omega
          have j1 : (j : Int) < nl := by omega
          clear hys ol oc ov ox hrowj hB hr
          go_wp2_with fail
          go_region_held3 (fun w' => w'.cell? ⟨gl, j, none⟩ = some (.slice Aj nj cj)) (first | assumption | go_keep)
            (first
              | (go_at_call 61; have _t := tk0; refine (impl_UnitVector _ _ _ (by omega)).mono ?_; rintro e R1 ⟨Au, nu, cu, rfl, ou, hbq⟩; have hbi : Below wr.heap.size wr R1 := ⟨hbq.os, hbq.tape, hbq.output, hbq.size, hbq.block⟩; have hsq1 := hbi.size; have HB1 := Lib.hid (HB0.out.trans (hbi.mono (by omega))); have hcell1 : R1.cell? ⟨gl, j, none⟩ = some (.slice Aj nj cj) := (HB1.out.cell (p := ⟨gl, j, none⟩) (by simp only; omega)).trans HC.out; have lu : nu ≤ 40 := (by have q := ou.len; simp only [List.length_map] at q; have z := Nc.unitL_len nl j; omega); have Ou := Lib.hid (show Own R1 wr.heap.size R1.heap.size 3 Au nu cu _ from ou); clear tk0 _t hbi hbq ou; have tk1 : True := trivial)
              | (go_at_call 59; have _t := tk1; refine (impl_Combine _ _ _ _ _ _ l (Nc.unitL nl (j : Int)) _ (by exact (OL.out.rdm.below HB1.out (by omega)).more (by omega)) (by exact Ou.out.rd.more (by omega)) (by omega) (by omega) HQ.out).mono ?_; rintro e R2 ⟨Ay1, ny1, cy1, rfl, oy1, hbq⟩; have hbi : Below R1.heap.size R1 R2 := ⟨hbq.os, hbq.tape, hbq.output, hbq.size, hbq.block⟩; have hsq2 := hbi.size; have HB2 := Lib.hid (HB1.out.trans (hbi.mono (by omega))); have hcell2 : R2.cell? ⟨gl, j, none⟩ = some (.slice Aj nj cj) := (HB2.out.cell (p := ⟨gl, j, none⟩) (by simp only; omega)).trans HC.out; have ly1 : ny1 ≤ 40 := (by have q := oy1.len; simp only [List.length_map] at q; have z := Nc.combL_len l (Nc.unitL nl (j : Int)); omega); rw [E1.out] at oy1; have Oy1 := Lib.hid (show Own R2 R1.heap.size R2.heap.size 3 Ay1 ny1 cy1 _ from oy1); clear tk1 _t hbi hbq oy1; have tk2 : True := trivial)
              | (go_at_call 22; have _t := tk2; refine (laws_sameInts _ _ _ _ _ _ ys ys _ (by exact Oy1.out.rd.more (by omega)) (by exact (OJ.out.rd.below HB2.out (by omega)).more (by omega)) (by omega) (by omega)).mono ?_; rintro e R3 ⟨rfl, hbq⟩; have hbi : Below R2.heap.size R2 R3 := ⟨hbq.os, hbq.tape, hbq.output, hbq.size, hbq.block⟩; have hsq3 := hbi.size; have HB3 := Lib.hid (HB2.out.trans (hbi.mono (by omega))); have hcell3 : R3.cell? ⟨gl, j, none⟩ = some (.slice Aj nj cj) := (HB3.out.cell (p := ⟨gl, j, none⟩) (by simp only; omega)).trans HC.out; rw [show decide (ys = ys) = true from decide_eq_true rfl]; clear tk2 _t hbi hbq; have tk3 : True := trivial)
              | (go_at_call 62; have _t := tk3; refine (spec_AddVectors _ _ _ _ _ _ zc V _ (by exact (OC.out.rd.below HB3.out (by omega)).more (by omega)) (by exact (OV.out.rd.below HB3.out (by omega)).more (by omega)) (by omega) (by omega)).mono ?_; rintro e R4 ⟨Aa1, na1, ca1, rfl, oa1, hbq⟩; have hbi : Below R3.heap.size R3 R4 := ⟨hbq.os, hbq.tape, hbq.output, hbq.size, hbq.block⟩; have hsq4 := hbi.size; have HB4 := Lib.hid (HB3.out.trans (hbi.mono (by omega))); have hcell4 : R4.cell? ⟨gl, j, none⟩ = some (.slice Aj nj cj) := (HB4.out.cell (p := ⟨gl, j, none⟩) (by simp only; omega)).trans HC.out; have la1 : na1 ≤ 40 := (by have q := oa1.len; simp only [List.length_map] at q; have z := Nc.addL_len zc V 1; omega); have Oa1 := Lib.hid (show Own R4 R3.heap.size R4.heap.size 3 Aa1 na1 ca1 _ from oa1); clear tk3 _t hbi hbq oa1; have tk4 : True := trivial)
              | (go_at_call 59; have _t := tk4; refine (impl_Combine _ _ _ _ _ _ l (Nc.addL zc V 1) _ (by exact (OL.out.rdm.below HB4.out (by omega)).more (by omega)) (by exact Oa1.out.rd.more (by omega)) (by omega) (by omega) HQ.out).mono ?_; rintro e R5 ⟨Ay2, ny2, cy2, rfl, oy2, hbq⟩; have hbi : Below R4.heap.size R4 R5 := ⟨hbq.os, hbq.tape, hbq.output, hbq.size, hbq.block⟩; have hsq5 := hbi.size; have HB5 := Lib.hid (HB4.out.trans (hbi.mono (by omega))); have hcell5 : R5.cell? ⟨gl, j, none⟩ = some (.slice Aj nj cj) := (HB5.out.cell (p := ⟨gl, j, none⟩) (by simp only; omega)).trans HC.out; have ly2 : ny2 ≤ 40 := (by have q := oy2.len; simp only [List.length_map] at q; have z := Nc.combL_len l (Nc.addL zc V 1); omega); rw [E2.out] at oy2; have Oy2 := Lib.hid (show Own R5 R4.heap.size R5.heap.size 3 Ay2 ny2 cy2 _ from oy2); clear tk4 _t hbi hbq oy2; have tk5 : True := trivial)
              | (go_at_call 59; have _t := tk5; refine (impl_Combine _ _ _ _ _ _ l V _ (by exact (OL.out.rdm.below HB5.out (by omega)).more (by omega)) (by exact (OV.out.rd.below HB5.out (by omega)).more (by omega)) (by omega) (by omega) HQ.out).mono ?_; rintro e R6 ⟨Ay3, ny3, cy3, rfl, oy3, hbq⟩; have hbi : Below R5.heap.size R5 R6 := ⟨hbq.os, hbq.tape, hbq.output, hbq.size, hbq.block⟩; have hsq6 := hbi.size; have HB6 := Lib.hid (HB5.out.trans (hbi.mono (by omega))); have hcell6 : R6.cell? ⟨gl, j, none⟩ = some (.slice Aj nj cj) := (HB6.out.cell (p := ⟨gl, j, none⟩) (by simp only; omega)).trans HC.out; replace Oy2 := Lib.hid (Oy2.out.below hbi (by omega)); have ly3 : ny3 ≤ 40 := (by have q := oy3.len; simp only [List.length_map] at q; have z := Nc.combL_len l V; omega); have Oy3 := Lib.hid (show Own R6 R5.heap.size R6.heap.size 3 Ay3 ny3 cy3 _ from oy3); clear tk5 _t hbi hbq oy3; have tk6 : True := trivial)
              | (go_at_call 62; have _t := tk6; refine (spec_AddVectors _ _ _ _ _ _ (Nc.combL l zc) (Nc.combL l V) _ (by exact (OX.out.rd.below HB6.out (by omega)).more (by omega)) (by exact Oy3.out.rd.more (by omega)) (by omega) (by omega)).mono ?_; rintro e R7 ⟨Aa2, na2, ca2, rfl, oa2, hbq⟩; have hbi : Below R6.heap.size R6 R7 := ⟨hbq.os, hbq.tape, hbq.output, hbq.size, hbq.block⟩; have hsq7 := hbi.size; have HB7 := Lib.hid (HB6.out.trans (hbi.mono (by omega))); have hcell7 : R7.cell? ⟨gl, j, none⟩ = some (.slice Aj nj cj) := (HB7.out.cell (p := ⟨gl, j, none⟩) (by simp only; omega)).trans HC.out; replace Oy2 := Lib.hid (Oy2.out.below hbi (by omega)); have la2 : na2 ≤ 40 := (by have q := oa2.len; simp only [List.length_map] at q; have z := Nc.addL_len (Nc.combL l zc) (Nc.combL l V) 1; omega); have Oa2 := Lib.hid (show Own R7 R6.heap.size R7.heap.size 3 Aa2 na2 ca2 _ from oa2); clear tk6 _t hbi hbq oa2; have tk7 : True := trivial)
              | (go_at_call 22; have _t := tk7; refine (laws_sameInts _ _ _ _ _ _ _ _ _ (by exact Oy2.out.rd.more (by omega)) (by exact Oa2.out.rd.more (by omega)) (by omega) (by omega)).mono ?_; rintro e R8 ⟨rfl, hbq⟩; have hbi : Below R7.heap.size R7 R8 := ⟨hbq.os, hbq.tape, hbq.output, hbq.size, hbq.block⟩; have hsq8 := hbi.size; have HB8 := Lib.hid (HB7.out.trans (hbi.mono (by omega))); have hcell8 : R8.cell? ⟨gl, j, none⟩ = some (.slice Aj nj cj) := (HB8.out.cell (p := ⟨gl, j, none⟩) (by simp only; omega)).trans HC.out; rw [decide_eq_true rfl]; clear tk7 _t hbi hbq; have tk8 : True := trivial)
              | (go_at_call 63; have _t := tk8; refine (spec_ScaleVector _ _ _ 7 zc _ (by exact (OC.out.rd.below HB8.out (by omega)).more (by omega)) (by omega)).mono ?_; rintro e R9 ⟨As1, ns1, cs1, rfl, os1, hbq⟩; have hbi : Below R8.heap.size R8 R9 := ⟨hbq.os, hbq.tape, hbq.output, hbq.size, hbq.block⟩; have hsq9 := hbi.size; have HB9 := Lib.hid (HB8.out.trans (hbi.mono (by omega))); have hcell9 : R9.cell? ⟨gl, j, none⟩ = some (.slice Aj nj cj) := (HB9.out.cell (p := ⟨gl, j, none⟩) (by simp only; omega)).trans HC.out; have ls1 : ns1 ≤ 40 := (by have q := os1.len; simp only [List.length_map] at q; have z := Nc.scaleL_len zc 7; omega); have Os1 := Lib.hid (show Own R9 R8.heap.size R9.heap.size 3 As1 ns1 cs1 _ from os1); clear tk8 _t hbi hbq os1; have tk9 : True := trivial)
              | (go_at_call 59; have _t := tk9; refine (impl_Combine _ _ _ _ _ _ l (Nc.scaleL zc 7) _ (by exact (OL.out.rdm.below HB9.out (by omega)).more (by omega)) (by exact Os1.out.rd.more (by omega)) (by omega) (by omega) HQ.out).mono ?_; rintro e R10 ⟨Ay4, ny4, cy4, rfl, oy4, hbq⟩; have hbi : Below R9.heap.size R9 R10 := ⟨hbq.os, hbq.tape, hbq.output, hbq.size, hbq.block⟩; have hsq10 := hbi.size; have HB10 := Lib.hid (HB9.out.trans (hbi.mono (by omega))); have hcell10 : R10.cell? ⟨gl, j, none⟩ = some (.slice Aj nj cj) := (HB10.out.cell (p := ⟨gl, j, none⟩) (by simp only; omega)).trans HC.out; have ly4 : ny4 ≤ 40 := (by have q := oy4.len; simp only [List.length_map] at q; have z := Nc.combL_len l (Nc.scaleL zc 7); omega); rw [E3.out] at oy4; have Oy4 := Lib.hid (show Own R10 R9.heap.size R10.heap.size 3 Ay4 ny4 cy4 _ from oy4); clear tk9 _t hbi hbq oy4; have tk10 : True := trivial)
              | (go_at_call 63; have _t := tk10; refine (spec_ScaleVector _ _ _ 7 (Nc.combL l zc) _ (by exact (OX.out.rd.below HB10.out (by omega)).more (by omega)) (by omega)).mono ?_; rintro e R11 ⟨As2, ns2, cs2, rfl, os2, hbq⟩; have hbi : Below R10.heap.size R10 R11 := ⟨hbq.os, hbq.tape, hbq.output, hbq.size, hbq.block⟩; have hsq11 := hbi.size; have HB11 := Lib.hid (HB10.out.trans (hbi.mono (by omega))); have hcell11 : R11.cell? ⟨gl, j, none⟩ = some (.slice Aj nj cj) := (HB11.out.cell (p := ⟨gl, j, none⟩) (by simp only; omega)).trans HC.out; replace Oy4 := Lib.hid (Oy4.out.below hbi (by omega)); have ls2 : ns2 ≤ 40 := (by have q := os2.len; simp only [List.length_map] at q; have z := Nc.scaleL_len (Nc.combL l zc) 7; omega); have Os2 := Lib.hid (show Own R11 R10.heap.size R11.heap.size 3 As2 ns2 cs2 _ from os2); clear tk10 _t hbi hbq os2; have tk11 : True := trivial)
              | (go_at_call 22; have _t := tk11; refine (laws_sameInts _ _ _ _ _ _ _ _ _ (by exact Oy4.out.rd.more (by omega)) (by exact Os2.out.rd.more (by omega)) (by omega) (by omega)).mono ?_; rintro e R12 ⟨rfl, hbq⟩; have hbi : Below R11.heap.size R11 R12 := ⟨hbq.os, hbq.tape, hbq.output, hbq.size, hbq.block⟩; have hsq12 := hbi.size; have HB12 := Lib.hid (HB11.out.trans (hbi.mono (by omega))); have hcell12 : R12.cell? ⟨gl, j, none⟩ = some (.slice Aj nj cj) := (HB12.out.cell (p := ⟨gl, j, none⟩) (by simp only; omega)).trans HC.out; rw [decide_eq_true rfl]; clear tk11 _t hbi hbq; have tk12 : True := trivial))
          go_wp2_with fail
          go_ret
          exact ⟨rfl, HBB.out.trans (HB12.out.mono (by omega))⟩

/-! ### THE ROW's STEP: WRITTEN OUT: LEAVE IT -/
set_option maxRecDepth 100000 in
theorem lifted (os : Os) (started : os.Started) (H : Type) (enc : TypeId × Value → H) :
    ReturnsInHanded {} Try.checked os 10 .any (Rows.fnCombinationsSpec.pre6 enc Try.prog Try.f10 Rows.fnCombinationsRow.domain false) (Rows.fnCombinationsSpec.post enc Try.prog Try.f10 false true false false) := by
  refine returnsInHanded_of_change (C := Try.checked) own started (by kernel_rfl) Try.func10
    (ChangeSpec.witness6 (enc := enc) (C := Try.checked) false ⟨#[], #[.slice none 0 0], []⟩ 8 (by kernel_rfl) (by kernel_rfl) (by kernel_rfl) (by kernel_rfl)) ?_
  intro W base args ds gs before hval0 hW hcnd _
  have hval : ∀ (j : Nat) t v, Try.f10.params[j]? = some t → args[j]? = some v → Value.okWide Try.prog W .any base t v := hval0
  have hW' := hW
  obtain ⟨p, q, hA0, hV, rfl, hfz, hnd⟩ := hW
  have hA : DataW.TrodAll enc Try.prog W 0 (fun _ => true) true Try.f10.params.toList args.toList ds p := hA0
  rw [Try.params10] at hA hval
  obtain ⟨v0, vs0, d0, ds0, p0, q0, hargs, rfl, rfl, h0, r0⟩ := trodAll_cons hA
  obtain ⟨rfl, rfl, rfl⟩ := trodAll_nil r0
  obtain rfl : args = #[v0] := by cases args; simp_all
  obtain ⟨rfl, rfl⟩ := trodVars_none hV
  obtain ⟨a0, len0, cap0, rfl⟩ := okWide_slice Try.underlying22 (hval 0 22 v0 rfl rfl)
  have k0 := h0
  have lt0 : ∀ x ∈ p0, x.block < W.heap.size := by obtain ⟨m, hm⟩ := k0; exact DataW.trod_lt m _ _ _ hm
  obtain ⟨z0, w0⟩ : ∃ zs, IsRow .u8 W a0 len0 cap0 zs := by
    obtain ⟨fuel, hf⟩ := h0
    rcases open_ints Try.underlying22 Try.underlying5 (by kernel_rfl) hf with ⟨hcs, _⟩ | ⟨x, l, c, zs, hcs, _, hl, hm, hz, _, hcell, hwz⟩
    · simp [Value.cells] at hcs
      obtain ⟨rfl, rfl, rfl⟩ := hcs
      exact ⟨[], .inl ⟨rfl, rfl, rfl, rfl⟩⟩
    · simp [Value.cells] at hcs
      obtain ⟨rfl, rfl, rfl⟩ := hcs
      exact ⟨zs, .inr ⟨_, rfl, hl, hm, by simpa using hz, hcell, hwz⟩⟩
  clear hA0 hval0
  refine (walk a0 len0 cap0 z0 W w0).mono fun e W' ⟨he, bel⟩ => ?_
  subst he
  exact ⟨_, rfl, _, _, _, [], _, [], hW', trodAll_mk1 (shut_bool Try.underlying4 _), (trodAll_cons_mk (Below.trod laidOut (by kernel_rfl) (of_decide_eq_true (by kernel_rfl)) k0 bel lt0) trodAll_mk0), rfl, bel.frame _, fun h => by cases h⟩

theorem over : Rows.fnCombinationsRow.holds Try.pinned (OpenSpec.ofChange Rows.fnCombinationsSpec) :=
  OpenClaim.holds_of_wide 10 Try.f10 rfl rfl rfl rfl rfl rfl rfl ⟨rfl, rfl, rfl, rfl, rfl⟩ rfl rfl rfl rfl rfl (by kernel_rfl) Try.func10 (by kernel_rfl)
    (of_decide_eq_true (by kernel_rfl)) (by unfold Func.isWrapper; first | (rw [if_pos (by decide +kernel)]; kernel_rfl) | (rw [if_neg (by decide +kernel)]; exact ⟨rfl, rfl⟩))
    (fun os started H enc _ => lifted os started H enc)

/-- ████ THE STATEMENT ████ -/
theorem proved : Rows.FnCombinationsSaid := over
#print axioms proved
end Go.Proofs.Ytnobbojjhehdfaa.fnCombinations
