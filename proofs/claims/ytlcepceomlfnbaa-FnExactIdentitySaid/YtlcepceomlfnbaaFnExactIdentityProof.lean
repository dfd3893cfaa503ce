/- The law FnExactIdentity returns true for every input, and its arguments read afterwards as before. Conditions: none. -/
import Derived.Test.YtlcepceomlfnbaaRows
import Derived.WalkKit
import Derived.ProofKit
import Derived.OpenShut
import Derived.Test.YtlcepceomlfnbaaIdent
import Derived.Test.YtlcepceomlfnbaaLawkit2
import Derived.ShutString
namespace Go.Proofs.Ytlcepceomlfnbaa.fnExactIdentity
open Go.ChangeShapes Go.WideShapes Go.ChangeAt Go.RowKit
open Go.ChangeMaps (open_string shut_string)
set_option linter.unusedVariables false      -- a walk need not use every 'w<i>' (that an integer argument fits its kind)

theorem own : ownKnob Try.prog.godebug = none := by kernel_rfl

/-! ### STEP 1: THE WALK: the Go text returns true. 'Grown w w'': the world has at most new blocks (Derived/RowKit3.lean). Part the cases AHEAD of 'go_enter' where a test parts the walk; take each callee by a contract of your own. -/
theorem walk (a0 : Int) (w0 : (Lit.int .i64 a0).wf = true) (w : World) :
    Calls Try.prog 5 #[.int .i64 a0] w fun e w' => e = .returned (.bool true) ∧ Below w.heap.size w w' := by
  have hB : Below w.heap.size w w := Below.refl _ _
  go_enter Try.func5, Try.ntmps5
  go_wp2_with fail
  refine (spec_Identity _ _).mono ?_
  rintro e W1 ⟨AW, nW, cW, rfl, oW, hb⟩
  replace hB := hB.trans (hb.mono (by omega))
  have hs1 := hb.size
  have lnW : nW ≤ 1099511627776 := by have q := oW.len; have t := Nc.idL_len a0; omega
  clear hb
  go_wp2_with fail
  refine (impl_Identity _ _).mono ?_
  rintro e W2 ⟨AG, nG, cG, rfl, oG, hb⟩
  replace oW := oW.below hb (by omega)
  replace hB := hB.trans (hb.mono (by omega))
  have hs2 := hb.size
  have lnG : nG ≤ 1099511627776 := by have q := oG.len; have t := Nc.idL_len a0; omega
  clear hb
  go_wp2_with fail
  refine (laws_eqIntSS _ _ _ _ _ _ _ _ _ (oG.rdm.more (by omega)) (oW.rdm.more (by omega)) (by omega) (by omega) (fun xs hxs => Nat.le_trans (Nc.idL_row a0 xs hxs) (by decide)) (fun xs hxs => Nat.le_trans (Nc.idL_row a0 xs hxs) (by decide))).mono ?_
  rintro e W3 ⟨rfl, hqt⟩
  have hb := hqt.below
  replace oW := oW.below hb (by omega)
  replace oG := oG.below hb (by omega)
  replace hB := hB.trans (hb.mono (by omega))
  have hs3 := hb.size
  clear hb hqt
  go_wp2_with fail
  refine (laws_markIntSS _ _ _ _ 1 _ _ _ oG (by omega) (by omega) (by omega) (Nat.le_trans (cells_le (Nc.idL_len a0) (Nc.idL_row a0)) (by decide))).mono ?_
  rintro e W4 ⟨rfl, pG, hg⟩
  replace oW := oW.wrote hg (by omega)
  replace hB := hB.trans (hg.below (by omega) (by omega))
  have hs4 := hg.size
  clear oG
  have oG := pG
  clear pG hg
  go_wp2_with fail
  refine (laws_heldIntSS _ _ _ _ 1 _ (oG.rdm.more (by omega)) (by omega) (by omega) (by omega) (Nat.le_trans (cells_le (Nc.idL_len a0) (Nc.idL_row a0)) (by decide))).mono ?_
  rintro e w' ⟨rfl, rfl⟩
  go_wp2_with fail
  refine (impl_Identity _ _).mono ?_
  rintro e W5 ⟨AH, nH, cH, rfl, oH, hb⟩
  replace oW := oW.below hb (by omega)
  replace oG := oG.below hb (by omega)
  replace hB := hB.trans (hb.mono (by omega))
  have hs5 := hb.size
  have lnH : nH ≤ 1099511627776 := by have q := oH.len; have t := Nc.idL_len a0; omega
  clear hb
  go_wp2_with fail
  refine (laws_eqIntSS _ _ _ _ _ _ _ _ _ (oH.rdm.more (by omega)) (oW.rdm.more (by omega)) (by omega) (by omega) (fun xs hxs => Nat.le_trans (Nc.idL_row a0 xs hxs) (by decide)) (fun xs hxs => Nat.le_trans (Nc.idL_row a0 xs hxs) (by decide))).mono ?_
  rintro e W6 ⟨rfl, hqt⟩
  have hb := hqt.below
  replace oW := oW.below hb (by omega)
  replace oG := oG.below hb (by omega)
  replace oH := oH.below hb (by omega)
  replace hB := hB.trans (hb.mono (by omega))
  have hs6 := hb.size
  clear hb hqt
  go_wp2_with fail
  refine (laws_heldIntSS _ _ _ _ 1 _ (oG.rdm.more (by omega)) (by omega) (by omega) (by omega) (Nat.le_trans (cells_le (Nc.idL_len a0) (Nc.idL_row a0)) (by decide))).mono ?_
  rintro e w' ⟨rfl, rfl⟩
  go_wp2_with fail
  go_ret
  exact ⟨rfl, hB⟩

/-! ### THE ROW's STEP: WRITTEN OUT: LEAVE IT -/
set_option maxRecDepth 100000 in
theorem lifted (os : Os) (started : os.Started) (H : Type) (enc : TypeId × Value → H) :
    ReturnsInHanded {} Try.checked os 5 .any (Rows.fnExactIdentitySpec.pre6 enc Try.prog Try.f5 Rows.fnExactIdentityRow.domain false) (Rows.fnExactIdentitySpec.post enc Try.prog Try.f5 false true false false) := by
  refine returnsInHanded_of_change (C := Try.checked) own started (by kernel_rfl) Try.func5
    (ChangeSpec.witness6 (enc := enc) (C := Try.checked) false ⟨#[], #[.int .i64 0], []⟩ 8 (by kernel_rfl) (by kernel_rfl) (by kernel_rfl) (by kernel_rfl)) ?_
  intro W base args ds gs before hval0 hW hcnd _
  have hval : ∀ (j : Nat) t v, Try.f5.params[j]? = some t → args[j]? = some v → Value.okWide Try.prog W .any base t v := hval0
  have hW' := hW
  obtain ⟨p, q, hA0, hV, rfl, hfz, hnd⟩ := hW
  have hA : DataW.TrodAll enc Try.prog W 0 (fun _ => true) true Try.f5.params.toList args.toList ds p := hA0
  rw [Try.params5] at hA hval
  obtain ⟨v0, vs0, d0, ds0, p0, q0, hargs, rfl, rfl, h0, r0⟩ := trodAll_cons hA
  obtain ⟨rfl, rfl, rfl⟩ := trodAll_nil r0
  obtain rfl : args = #[v0] := by cases args; simp_all
  obtain ⟨rfl, rfl⟩ := trodVars_none hV
  obtain ⟨a0, rfl, rfl, rfl, w0⟩ := open_int Try.underlying3 (hval 0 3 v0 rfl rfl) h0
  clear hA0 hval0
  simp only [List.append_nil] at hW'
  refine (walk a0 w0 W).mono fun e W' ⟨he, hg⟩ => ?_
  subst he
  exact ⟨_, rfl, _, _, _, [], _, [], hW', trodAll_cons_mk (shut_bool Try.underlying4 _) trodAll_mk0, (trodAll_cons_mk (shut_int Try.underlying3 w0) trodAll_mk0), rfl, hg.frame _, fun h => by cases h⟩

theorem over : Rows.fnExactIdentityRow.holds Try.pinned (OpenSpec.ofChange Rows.fnExactIdentitySpec) :=
  OpenClaim.holds_of_wide 5 Try.f5 rfl rfl rfl rfl rfl rfl rfl ⟨rfl, rfl, rfl, rfl, rfl⟩ rfl rfl rfl rfl rfl (by kernel_rfl) Try.func5 (by kernel_rfl)
    (of_decide_eq_true (by kernel_rfl)) (by unfold Func.isWrapper; first | (rw [if_pos (by decide +kernel)]; kernel_rfl) | (rw [if_neg (by decide +kernel)]; exact ⟨rfl, rfl⟩))
    (fun os started H enc _ => lifted os started H enc)

/-- ████ THE STATEMENT ████ -/
theorem proved : Rows.FnExactIdentitySaid :=
  over
#print axioms proved
end Go.Proofs.Ytlcepceomlfnbaa.fnExactIdentity
