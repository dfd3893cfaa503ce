/- The law FnVectors returns true for every input, and its arguments read afterwards as before. Conditions: none. -/
import Derived.Test.YtnobbojjhehdfaaRows
import Derived.WalkKit
import Derived.ProofKit
import Derived.OpenShut
import Derived.Test.YtnobbojjhehdfaaDraw4
import Derived.Test.YtnobbojjhehdfaaPlainF
import Derived.Test.YtnobbojjhehdfaaPlainL
import Derived.Test.YtnobbojjhehdfaaSame
import Derived.Test.YtnobbojjhehdfaaLawkit
import Derived.ShutString
import Derived.ChangeOld
import Derived.Below
namespace Go.Proofs.Ytnobbojjhehdfaa.fnVectors
open Go.ChangeShapes Go.WideShapes Go.ChangeAt Go.RowKit
open Go.ChangeMaps (open_string shut_string)
set_option linter.unusedVariables false

theorem own : ownKnob Try.prog.godebug = none := by kernel_rfl
theorem laidOut : laidOutB Try.prog = true := by kernel_rfl

/-- WHAT THE WALK IS TOLD OF A SLICE OF INTEGERS THAT CAME IN: it is nil; or it leads to a row of 'cap' cells, the numbers 'zs' (the first 'len' are its elements, the rest its spare room), each fitting its kind. -/
def IsRow (k : IntKind) (w : World) (a : Option Addr) (len cap : Nat) (zs : List Int) : Prop :=
  (a = none ∧ len = 0 ∧ cap = 0 ∧ zs = []) ∨
  ∃ x, a = some x ∧ len ≤ cap ∧ cap ≤ maxLen ∧ zs.length = cap ∧ (∀ i, i < zs.length → w.cell? (x.add i) = some (.int k (zs.getD i 0))) ∧ ∀ n ∈ zs, (Lit.int k n).wf = true

/-! ### STEP 1: THE WALK: the Go text returns true, AND WRITES NOTHING THAT WAS THERE: 'Below w.heap.size w w'' (Derived/Below.lean: '.refl', '.alloc', '.drew', '.setCell' at a new block, '.trans'). Open each 'IsRow' by 'rcases' AHEAD of 'go_enter'; part every test ahead of the walk. -/
set_option maxRecDepth 100000 in
set_option maxHeartbeats 4000000 in
theorem walk (a0 : Option Addr) (len0 cap0 : Nat) (z0 : List Int) (w : World) (w0 : IsRow .u8 w a0 len0 cap0 z0) :
    Calls Try.prog 11 #[.slice a0 len0 cap0] w fun e w' => e = .returned (.bool true) ∧ Below w.heap.size w w' := by
  obtain ⟨i0, hi0, hz0, hz1, hz2⟩ := info_parts Try.info_int
  obtain ⟨xs, hr, hv, hlc, hcm⟩ := rd_of_row w0
  have HZ := Lib.hid (show ∀ x ∈ xs, 0 ≤ x ∧ x ≤ 255 from fun x hx => bounds_u8 (hv x hx))
  clear w0 hv hcm
  by_cases hn : len0 ≤ 1048576
  rotate_left
  · have HBIG := Lib.hid (show decide ((1048576 : Int) < len0) = true by simp; omega)
    go_enter Try.func11, Try.ntmps11
    go_wp2_with fail
    refine (laws_big _ _ _ _).mono ?_
    rintro e w' ⟨rfl, rfl⟩
    rw [HBIG.out]
    go_wp2_with fail
    go_ret
    exact ⟨rfl, Below.refl _ _⟩
  have HBIG := Lib.hid (show decide ((1048576 : Int) < len0) = false by simp; omega)
  have hB : Below w.heap.size w w := Below.refl _ _
  go_enter Try.func11, Try.ntmps11
  go_wp2_with fail
  refine (laws_big _ _ _ _).mono ?_
  rintro e w' ⟨rfl, rfl⟩
  rw [HBIG.out]
  go_wp2_with fail
  refine (spec_DrawAddScaled _ _ _ xs _ hr HZ.out hn).mono ?_
  rintro e W1 ⟨Aa, na, ca, za, Ab, nb, cb, zb, k, rfl, hna, hnb, k0, k1, halla, hallb, oa, ob, hb⟩
  replace hr := hr.below hb (by omega)
  have hs1 := hb.size
  replace hB := hB.trans (hb.mono (by omega))
  clear hb
  have HLA := Lib.hid (show za.length = na by have q := oa.len; simpa using q)
  have HLB := Lib.hid (show zb.length = nb by have q := ob.len; simpa using q)
  clear halla hallb
  go_wp2_with fail
  refine (impl_AddScaled _ _ _ _ _ _ k za zb _ (oa.rd.more (by omega)) (ob.rd.more (by omega)) (by omega) (by omega)).mono ?_
  rintro e W2 ⟨As, ns, cs, rfl, os, hb⟩
  replace hr := hr.below hb (by omega)
  replace oa := oa.below hb (by omega)
  replace ob := ob.below hb (by omega)
  have hs2 := hb.size
  replace hB := hB.trans (hb.mono (by omega))
  clear hb
  have lns : ns ≤ 40 := by have q := os.len; simp only [List.length_map] at q; have t := Nc.addL_len za zb k; omega
  cases va : Nc.vecB za
  · have E := Nc.addL_no (xs := za) (ys := zb) (k := k) (.inl va)
    obtain rfl : ns = 0 := by have q := os.len; rw [E] at q; simpa using q.symm
    have HA := Lib.hid va
    clear E va
    go_wp2_with fail
    refine (spec_IsValidVector _ _ _ za _ (oa.rd.more (by omega)) (by omega)).mono ?_
    rintro e w' ⟨rfl, rfl⟩
    rw [HA.out]
    go_wp2_with fail
    go_ret
    exact ⟨rfl, hB⟩
  · cases vb : Nc.vecB zb
    · have E := Nc.addL_no (xs := za) (ys := zb) (k := k) (.inr (.inl vb))
      obtain rfl : ns = 0 := by have q := os.len; rw [E] at q; simpa using q.symm
      have HA := Lib.hid va
      clear E va
      go_wp2_with fail
      refine (spec_IsValidVector _ _ _ za _ (oa.rd.more (by omega)) (by omega)).mono ?_
      rintro e w' ⟨rfl, rfl⟩
      rw [HA.out]
      have HB := Lib.hid vb
      clear vb
      go_wp2_with fail
      refine (spec_IsValidVector _ _ _ zb _ (ob.rd.more (by omega)) (by omega)).mono ?_
      rintro e w' ⟨rfl, rfl⟩
      rw [HB.out]
      go_wp2_with fail
      go_ret
      exact ⟨rfl, hB⟩
    · by_cases hab : na = nb
      rotate_left
      · have E := Nc.addL_no (xs := za) (ys := zb) (k := k) (.inr (.inr (.inl (by rw [HLA.out, HLB.out]; exact hab))))
        obtain rfl : ns = 0 := by have q := os.len; rw [E] at q; simpa using q.symm
        have HA := Lib.hid va
        clear E va
        go_wp2_with fail
        refine (spec_IsValidVector _ _ _ za _ (oa.rd.more (by omega)) (by omega)).mono ?_
        rintro e w' ⟨rfl, rfl⟩
        rw [HA.out]
        have HB := Lib.hid vb
        clear vb
        go_wp2_with fail
        refine (spec_IsValidVector _ _ _ zb _ (ob.rd.more (by omega)) (by omega)).mono ?_
        rintro e w' ⟨rfl, rfl⟩
        rw [HB.out]
        have hq : ((na : Int) != nb) = true := by simp; omega
        go_wp2_with fail
        go_ret
        exact ⟨rfl, hB⟩
      subst hab
      cases vk : Nc.elB k
      · have E := Nc.addL_no (xs := za) (ys := zb) (k := k) (.inr (.inr (.inr vk)))
        obtain rfl : ns = 0 := by have q := os.len; rw [E] at q; simpa using q.symm
        have HA := Lib.hid va
        clear E va
        go_wp2_with fail
        refine (spec_IsValidVector _ _ _ za _ (oa.rd.more (by omega)) (by omega)).mono ?_
        rintro e w' ⟨rfl, rfl⟩
        rw [HA.out]
        have HB := Lib.hid vb
        clear vb
        go_wp2_with fail
        refine (spec_IsValidVector _ _ _ zb _ (ob.rd.more (by omega)) (by omega)).mono ?_
        rintro e w' ⟨rfl, rfl⟩
        rw [HB.out]
        have hq : ((na : Int) != na) = false := by simp
        have HK := Lib.hid vk
        clear vk
        go_wp2_with fail
        refine (spec_IsElement k _).mono ?_
        rintro e w' ⟨rfl, rfl⟩
        rw [HK.out]
        go_wp2_with fail
        go_ret
        exact ⟨rfl, hB⟩
      · have hln : za.length = zb.length := by rw [HLA.out, HLB.out]
        have ES := Nc.addL_yes va vb hln vk
        have HS := Lib.hid (Nc.addR_vec (ys := zb) k va)
        have E2 := Lib.hid (Nc.vec_two va vb hln vk)
        have E3 := Lib.hid (Nc.vec_back va vb hln vk)
        have E6 := Lib.hid (Nc.vec_lead va)
        rw [ES] at os
        have HN40 := Lib.hid (Nc.vecB_len va)
        have HVA0 := Lib.hid va
        have HVB := Lib.hid vb
        have HVK := Lib.hid vk
        have HLN := Lib.hid hln
        have hq : ((na : Int) != na) = false := by simp
        have hn40 : na ≤ 40 := by rw [← HLA.out]; exact HN40.out
        clear va vb vk hln ES
        go_wp2_with fail
        refine (spec_IsValidVector _ _ _ za _ (oa.rd.more (by omega)) (by omega)).mono ?_
        rintro e w' ⟨rfl, rfl⟩
        rw [HVA0.out]
        go_wp2_with fail
        refine (spec_IsValidVector _ _ _ zb _ (ob.rd.more (by omega)) (by omega)).mono ?_
        rintro e w' ⟨rfl, rfl⟩
        rw [HVB.out]
        go_wp2_with fail
        refine (spec_IsElement k _).mono ?_
        rintro e w' ⟨rfl, rfl⟩
        rw [HVK.out]
        go_wp2_with (first | (at_make; refine wpList_mk _ rfl _ _ _ rfl W2.heap.size 3 i0 .i64 Try.underlying30 hi0 hz0 hz1 .i64 .i64 _ _ na rfl rfl rfl rfl (by rw [hz2]; omega) (by unfold maxLen; omega) (Nat.le_refl _) ?_; intro wm hownm hbm) | fail)
        obtain ⟨V, hV⟩ : ∃ V, V = Nc.tab na (fun i => Nc.atV xs i * 2) := ⟨_, rfl⟩
        have HVL := Lib.hid (show V.length = na by rw [hV, Nc.tab_len])
        have HVA := Lib.hid (show ∀ k, k < na → V[k]? = some (Nc.atV xs k * 2) from fun k hk => by rw [hV, Nc.tab_at hk])
        have HV := Lib.hid hV
        clear hV
        go_loopw [8] (fun i wr => ∃ k : Nat, k ≤ na ∧ i = .int .i64 k ∧ wr.ownsRow W2.heap.size 3 1 (.slice (some ⟨W2.heap.size, 0, none⟩) na na) na (half .i64 V na k) ∧ Below W2.heap.size W2 wr) (fun i _ => na - (intOf i).toNat)
        case atStart => exact ⟨0, Nat.zero_le _, rfl, by rw [half_zero]; exact hownm, hbm⟩
        case round =>
          clear hownm hbm
          obtain ⟨kk, hk, rfl, hown, hbr⟩ := hrel
          have hszr := hbr.size
          by_cases hlt : kk < na
          · have hst := hown.stored kk (.int .i64 (Nc.atV xs kk * 2))
            rw [half_next HVL.out (HVA.out kk hlt)] at hst
            have hcell := hown.cellAt kk (by omega)
            rw [half_at HVL.out hlt] at hcell
            have hfz := hown.frozenAt kk
            have hr2 : Rd wr wr.heap.size a0 len0 (xs.map (.int .u8)) := (hr.below hbr (by omega)).more (by omega)
            obtain ⟨t0, t1⟩ := Nc.atV_bd HZ.out kk
            go_wp2_with fail
            refine (laws_at _ _ _ xs kk _ hr2 HZ.out hn (by omega)).mono ?_
            rintro e w' ⟨rfl, rfl⟩
            go_wp2_with fail
            go_roundw
            case rel => exact ⟨kk + 1, by omega, by go_num, hst.1, hbr.setCell (Nat.le_refl _) _⟩
            case measure => simp [intOf]; omega
          · obtain rfl : kk = na := by omega
            rw [half_full _ _ _ HVL.out] at hown
            have ov := Own.of hown (Nat.le_refl _)
            clear hown
            have hb := hbr
            clear hbr
            replace hr := hr.below hb (by omega)
            replace oa := oa.below hb (by omega)
            replace ob := ob.below hb (by omega)
            replace os := os.below hb (by omega)
            have hs3 := hb.size
            replace hB := hB.trans (hb.mono (by omega))
            clear hb
            have HVV := Lib.hid (show Nc.vecB V = true by rw [HV.out]; exact Nc.tab_vec hn40 (fun i _ => by have := Nc.atV_bd HZ.out i; omega))
            have E4 := Lib.hid (Nc.vec_dot HVA0.out HVB.out HVV.out HLN.out (by rw [HVL.out, HLA.out]) HVK.out)
            have E5 := Lib.hid (Nc.dot_comm za V)
            clear hlt
            go_wp2_with fail
            refine (impl_IsValidVector _ _ _ (Nc.addR za zb k) _ (os.rd.more (by omega)) (by omega)).mono ?_
            rintro e w' ⟨rfl, rfl⟩
            rw [HS.out]
            go_wp2_with fail
            refine (impl_ScaleVector _ _ _ k zb _ (ob.rd.more (by omega)) (by omega)).mono ?_
            rintro e W4 ⟨Ap, np, cp, rfl, op, hb⟩
            replace hr := hr.below hb (by omega)
            replace oa := oa.below hb (by omega)
            replace ob := ob.below hb (by omega)
            replace os := os.below hb (by omega)
            replace ov := ov.below hb (by omega)
            have hs4 := hb.size
            replace hB := hB.trans (hb.mono (by omega))
            clear hb
            have lnp : np ≤ 40 := by have q := op.len; simp only [List.length_map] at q; have t := Nc.scaleL_len zb k; omega
            go_wp2_with fail
            refine (impl_AddVectors _ _ _ _ _ _ za (Nc.scaleL zb k) _ (oa.rd.more (by omega)) (op.rd.more (by omega)) (by omega) (by omega)).mono ?_
            rintro e W5 ⟨Aq, nq, cq, rfl, oq, hb⟩
            replace hr := hr.below hb (by omega)
            replace oa := oa.below hb (by omega)
            replace ob := ob.below hb (by omega)
            replace os := os.below hb (by omega)
            replace ov := ov.below hb (by omega)
            replace op := op.below hb (by omega)
            have hs5 := hb.size
            replace hB := hB.trans (hb.mono (by omega))
            clear hb
            have lnq : nq ≤ 40 := by have q := oq.len; simp only [List.length_map] at q; have t := Nc.addL_len za (Nc.scaleL zb k) 1; omega
            rw [E2.out] at oq
            go_wp2_with fail
            refine (laws_sameInts _ _ _ _ _ _ (Nc.addR za zb k) (Nc.addR za zb k) _ (os.rd.more (by omega)) (oq.rd.more (by omega)) (by omega) (by omega)).mono ?_
            rintro e W6 ⟨rfl, hb⟩
            replace hr := hr.below hb (by omega)
            replace oa := oa.below hb (by omega)
            replace ob := ob.below hb (by omega)
            replace os := os.below hb (by omega)
            replace ov := ov.below hb (by omega)
            replace op := op.below hb (by omega)
            replace oq := oq.below hb (by omega)
            have hs6 := hb.size
            replace hB := hB.trans (hb.mono (by omega))
            clear hb
            rw [show decide (Nc.addR za zb k = Nc.addR za zb k) = true from decide_eq_true rfl]
            clear op
            clear oq
            go_wp2_with fail
            refine (spec_SubField 0 k _).mono ?_
            rintro e w' ⟨rfl, rfl⟩
            go_wp2_with fail
            refine (impl_AddScaled _ _ _ _ _ _ _ (Nc.addR za zb k) zb _ (os.rd.more (by omega)) (ob.rd.more (by omega)) (by omega) (by omega)).mono ?_
            rintro e W7 ⟨Ar, nr, cr, rfl, or, hb⟩
            replace hr := hr.below hb (by omega)
            replace oa := oa.below hb (by omega)
            replace ob := ob.below hb (by omega)
            replace os := os.below hb (by omega)
            replace ov := ov.below hb (by omega)
            have hs7 := hb.size
            replace hB := hB.trans (hb.mono (by omega))
            clear hb
            have lnr : nr ≤ 40 := by have q := or.len; simp only [List.length_map] at q; have t := Nc.addL_len (Nc.addR za zb k) zb (Nc.subF 0 k); omega
            rw [E3.out] at or
            go_wp2_with fail
            refine (laws_sameInts _ _ _ _ _ _ za za _ (or.rd.more (by omega)) (oa.rd.more (by omega)) (by omega) (by omega)).mono ?_
            rintro e W8 ⟨rfl, hb⟩
            replace hr := hr.below hb (by omega)
            replace oa := oa.below hb (by omega)
            replace ob := ob.below hb (by omega)
            replace os := os.below hb (by omega)
            replace ov := ov.below hb (by omega)
            replace or := or.below hb (by omega)
            have hs8 := hb.size
            replace hB := hB.trans (hb.mono (by omega))
            clear hb
            rw [show decide (za = za) = true from decide_eq_true rfl]
            clear or
            go_wp2_with fail
            refine (impl_DotProduct _ _ _ _ _ _ (Nc.addR za zb k) V _ (os.rd.more (by omega)) (ov.rd.more (by omega)) (by omega) (by omega)).mono ?_
            rintro e w' ⟨rfl, rfl⟩
            go_wp2_with fail
            refine (impl_DotProduct _ _ _ _ _ _ za V _ (oa.rd.more (by omega)) (ov.rd.more (by omega)) (by omega) (by omega)).mono ?_
            rintro e w' ⟨rfl, rfl⟩
            go_wp2_with fail
            refine (impl_DotProduct _ _ _ _ _ _ zb V _ (ob.rd.more (by omega)) (ov.rd.more (by omega)) (by omega) (by omega)).mono ?_
            rintro e w' ⟨rfl, rfl⟩
            go_wp2_with fail
            refine (spec_MulField k _ _).mono ?_
            rintro e w' ⟨rfl, rfl⟩
            go_wp2_with fail
            refine (spec_AddField _ _ _).mono ?_
            rintro e w' ⟨rfl, rfl⟩
            rw [E4.out]
            go_wp2_with fail
            refine (impl_DotProduct _ _ _ _ _ _ za V _ (oa.rd.more (by omega)) (ov.rd.more (by omega)) (by omega) (by omega)).mono ?_
            rintro e w' ⟨rfl, rfl⟩
            go_wp2_with fail
            refine (impl_DotProduct _ _ _ _ _ _ V za _ (ov.rd.more (by omega)) (oa.rd.more (by omega)) (by omega) (by omega)).mono ?_
            rintro e w' ⟨rfl, rfl⟩
            rw [E5.out]
            go_wp2_with fail
            refine (impl_AddScaled _ _ _ _ _ _ 1018 za za _ (oa.rd.more (by omega)) (oa.rd.more (by omega)) (by omega) (by omega)).mono ?_
            rintro e W9 ⟨At, nt, ct, rfl, ot, hb⟩
            replace hr := hr.below hb (by omega)
            replace oa := oa.below hb (by omega)
            replace ob := ob.below hb (by omega)
            replace os := os.below hb (by omega)
            replace ov := ov.below hb (by omega)
            have hs9 := hb.size
            replace hB := hB.trans (hb.mono (by omega))
            clear hb
            have lnt : nt ≤ 40 := by have q := ot.len; simp only [List.length_map] at q; have t := Nc.addL_len za za 1018; omega
            go_wp2_with fail
            refine (impl_LeadingIndex _ _ _ (Nc.addL za za 1018) _ (ot.rd.more (by omega)) (by omega)).mono ?_
            rintro e w' ⟨rfl, rfl⟩
            rw [E6.out]
            go_wp2_with fail
            go_ret
            exact ⟨rfl, hB⟩

/-! ### THE ROW's STEP: WRITTEN OUT: LEAVE IT -/
set_option maxRecDepth 100000 in
theorem lifted (os : Os) (started : os.Started) (H : Type) (enc : TypeId × Value → H) :
    ReturnsInHanded {} Try.checked os 11 .any (Rows.fnVectorsSpec.pre6 enc Try.prog Try.f11 Rows.fnVectorsRow.domain false) (Rows.fnVectorsSpec.post enc Try.prog Try.f11 false true false false) := by
  refine returnsInHanded_of_change (C := Try.checked) own started (by kernel_rfl) Try.func11
    (ChangeSpec.witness6 (enc := enc) (C := Try.checked) false ⟨#[], #[.slice none 0 0], []⟩ 8 (by kernel_rfl) (by kernel_rfl) (by kernel_rfl) (by kernel_rfl)) ?_
  intro W base args ds gs before hval0 hW hcnd _
  have hval : ∀ (j : Nat) t v, Try.f11.params[j]? = some t → args[j]? = some v → Value.okWide Try.prog W .any base t v := hval0
  have hW' := hW
  obtain ⟨p, q, hA0, hV, rfl, hfz, hnd⟩ := hW
  have hA : DataW.TrodAll enc Try.prog W 0 (fun _ => true) true Try.f11.params.toList args.toList ds p := hA0
  rw [Try.params11] at hA hval
  obtain ⟨v0, vs0, d0, ds0, p0, q0, hargs, rfl, rfl, h0, r0⟩ := trodAll_cons hA
  obtain ⟨rfl, rfl, rfl⟩ := trodAll_nil r0
  obtain rfl : args = #[v0] := by cases args; simp_all
  obtain ⟨rfl, rfl⟩ := trodVars_none hV
  obtain ⟨a0, len0, cap0, rfl⟩ := okWide_slice Try.underlying22 (hval 0 22 v0 rfl rfl)
  have k0 := h0
  have lt0 : ∀ x ∈ p0, x.block < W.heap.size := by obtain ⟨m, hm⟩ := k0; exact DataW.trod_lt m _ _ _ hm
  obtain ⟨z0, w0⟩ : ∃ zs, IsRow .u8 W a0 len0 cap0 zs := by
    obtain ⟨fuel, hf⟩ := h0
    rcases open_ints Try.underlying22 Try.underlying5 (by kernel_rfl) hf with ⟨hcs, _⟩ | ⟨x, l, c, zs, hcs, _, hl, hm, hz, _, hcell, hwz⟩
    · simp [Value.cells] at hcs
      obtain ⟨rfl, rfl, rfl⟩ := hcs
      exact ⟨[], .inl ⟨rfl, rfl, rfl, rfl⟩⟩
    · simp [Value.cells] at hcs
      obtain ⟨rfl, rfl, rfl⟩ := hcs
      exact ⟨zs, .inr ⟨_, rfl, hl, hm, by simpa using hz, hcell, hwz⟩⟩
  clear hA0 hval0
  refine (walk a0 len0 cap0 z0 W w0).mono fun e W' ⟨he, bel⟩ => ?_
  subst he
  exact ⟨_, rfl, _, _, _, [], _, [], hW', trodAll_mk1 (shut_bool Try.underlying4 _), (trodAll_cons_mk (Below.trod laidOut (by kernel_rfl) (of_decide_eq_true (by kernel_rfl)) k0 bel lt0) trodAll_mk0), rfl, bel.frame _, fun h => by cases h⟩

theorem over : Rows.fnVectorsRow.holds Try.pinned (OpenSpec.ofChange Rows.fnVectorsSpec) :=
  OpenClaim.holds_of_wide 11 Try.f11 rfl rfl rfl rfl rfl rfl rfl ⟨rfl, rfl, rfl, rfl, rfl⟩ rfl rfl rfl rfl rfl (by kernel_rfl) Try.func11 (by kernel_rfl)
    (of_decide_eq_true (by kernel_rfl)) (by unfold Func.isWrapper; first | (rw [if_pos (by decide +kernel)]; kernel_rfl) | (rw [if_neg (by decide +kernel)]; exact ⟨rfl, rfl⟩))
    (fun os started H enc _ => lifted os started H enc)

/-- ████ THE STATEMENT ████ -/
theorem proved : Rows.FnVectorsSaid := over
#print axioms proved
end Go.Proofs.Ytnobbojjhehdfaa.fnVectors
