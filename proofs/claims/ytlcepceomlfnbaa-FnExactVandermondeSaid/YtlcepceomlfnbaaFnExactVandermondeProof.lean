/- The law FnExactVandermonde returns true for every input, and its arguments read afterwards as before. Conditions: none. -/
import Derived.Test.YtlcepceomlfnbaaRows
import Derived.WalkKit
import Derived.ProofKit
import Derived.OpenShut
import Derived.Test.YtlcepceomlfnbaaVan
import Derived.Test.YtlcepceomlfnbaaLawkit2
import Derived.ShutString
import Derived.ChangeOld
import Derived.Below
namespace Go.Proofs.Ytlcepceomlfnbaa.fnExactVandermonde
open Go.ChangeShapes Go.WideShapes Go.ChangeAt Go.RowKit
open Go.ChangeMaps (open_string shut_string)
set_option linter.unusedVariables false

theorem own : ownKnob Try.prog.godebug = none := by kernel_rfl
theorem laidOut : laidOutB Try.prog = true := by kernel_rfl

/-- WHAT THE WALK IS TOLD OF A SLICE OF INTEGERS THAT CAME IN: it is nil; or it leads to a row of 'cap' cells, the numbers 'zs' (the first 'len' are its elements, the rest its spare room), each fitting its kind. -/
def IsRow (k : IntKind) (w : World) (a : Option Addr) (len cap : Nat) (zs : List Int) : Prop :=
  (a = none ∧ len = 0 ∧ cap = 0 ∧ zs = []) ∨
  ∃ x, a = some x ∧ len ≤ cap ∧ cap ≤ maxLen ∧ zs.length = cap ∧ (∀ i, i < zs.length → w.cell? (x.add i) = some (.int k (zs.getD i 0))) ∧ ∀ n ∈ zs, (Lit.int k n).wf = true

/-! ### STEP 1: THE WALK: the Go text returns true, AND WRITES NOTHING THAT WAS THERE: 'Below w.heap.size w w'' (Derived/Below.lean: '.refl', '.alloc', '.drew', '.setCell' at a new block, '.trans'). Open each 'IsRow' by 'rcases' AHEAD of 'go_enter'; part every test ahead of the walk. -/
theorem walk (a0 : Option Addr) (len0 cap0 : Nat) (z0 : List Int) (a1 : Int) (w : World) (w0 : IsRow .i64 w a0 len0 cap0 z0) (w1 : (Lit.int .i64 a1).wf = true) :
    Calls Try.prog 9 #[.slice a0 len0 cap0, .int .i64 a1] w fun e w' => e = .returned (.bool true) ∧ Below w.heap.size w w' := by
  obtain ⟨xs0, r0, v0, hlc0, hcm0⟩ := rd_of_row w0
  have V0 := Lib.hid v0
  clear w0 v0 hcm0
  have hB : Below w.heap.size w w := Below.refl _ _
  by_cases hn0 : len0 ≤ 1048576
  rotate_left
  · go_enter Try.func9, Try.ntmps9
    go_wp2_with fail
    go_ret
    exact ⟨rfl, hB⟩
  have ll0 := Lib.hid r0.ilen
  go_enter Try.func9, Try.ntmps9
  go_wp2_with fail
  refine (laws_toIntS _ _ _ xs0 _ (r0.more (by omega)) (by omega)).mono ?_
  rintro e W1 ⟨As0, ns0, cs0, rfl, os0, hb⟩
  replace r0 := r0.below hb (by omega)
  replace hB := hB.trans (hb.mono (by omega))
  have hs1 := hb.size
  have lns0 : ns0 ≤ 1048576 := by have q := os0.len; simp only [List.length_map, ll0.out] at q; omega
  clear hb
  go_wp2_with fail
  refine (spec_Vandermonde _ _ _ xs0 _ _ (os0.rd.more (by omega)) (by omega)).mono ?_
  rintro e W2 ⟨AW, nW, cW, rfl, oW, hb⟩
  replace r0 := r0.below hb (by omega)
  replace os0 := os0.below hb (by omega)
  replace hB := hB.trans (hb.mono (by omega))
  have hs2 := hb.size
  have lnW : nW ≤ 1099511627776 := by have q := oW.len; have t := Nc.vanL_len xs0 a1; omega
  clear hb
  clear os0
  go_wp2_with fail
  refine (laws_toIntS _ _ _ xs0 _ (r0.more (by omega)) (by omega)).mono ?_
  rintro e W3 ⟨Ax0, nx0, cx0, rfl, ox0, hb⟩
  replace r0 := r0.below hb (by omega)
  replace oW := oW.below hb (by omega)
  replace hB := hB.trans (hb.mono (by omega))
  have hs3 := hb.size
  have lnx0 : nx0 ≤ 1048576 := by have q := ox0.len; simp only [List.length_map, ll0.out] at q; omega
  clear hb
  go_wp2_with fail
  refine (impl_Vandermonde _ _ _ xs0 _ _ (ox0.rd.more (by omega)) (by omega)).mono ?_
  rintro e W4 ⟨AG, nG, cG, rfl, oG, hb⟩
  replace r0 := r0.below hb (by omega)
  replace oW := oW.below hb (by omega)
  replace ox0 := ox0.below hb (by omega)
  replace hB := hB.trans (hb.mono (by omega))
  have hs4 := hb.size
  have lnG : nG ≤ 1099511627776 := by have q := oG.len; have t := Nc.vanL_len xs0 a1; omega
  clear hb
  go_wp2_with fail
  refine (laws_eqIntSS _ _ _ _ _ _ _ _ _ (oG.rdm.more (by omega)) (oW.rdm.more (by omega)) (by omega) (by omega) (fun xs hxs => Nat.le_trans (Nc.vanL_row xs0 a1 xs hxs) (by decide)) (fun xs hxs => Nat.le_trans (Nc.vanL_row xs0 a1 xs hxs) (by decide))).mono ?_
  rintro e W5 ⟨rfl, hqt⟩
  have hb := hqt.below
  replace r0 := r0.below hb (by omega)
  replace oW := oW.below hb (by omega)
  replace ox0 := ox0.below hb (by omega)
  replace oG := oG.below hb (by omega)
  replace hB := hB.trans (hb.mono (by omega))
  have hs5 := hb.size
  clear hb hqt
  go_wp2_with fail
  refine (laws_toIntS _ _ _ xs0 _ (r0.more (by omega)) (by omega)).mono ?_
  rintro e W6 ⟨Ay0, ny0, cy0, rfl, oy0, hb⟩
  replace r0 := r0.below hb (by omega)
  replace oW := oW.below hb (by omega)
  replace ox0 := ox0.below hb (by omega)
  replace oG := oG.below hb (by omega)
  replace hB := hB.trans (hb.mono (by omega))
  have hs6 := hb.size
  have lny0 : ny0 ≤ 1048576 := by have q := oy0.len; simp only [List.length_map, ll0.out] at q; omega
  clear hb
  go_wp2_with fail
  refine (laws_eqIntS _ _ _ _ _ _ _ _ _ (ox0.rd.more (by omega)) (oy0.rd.more (by omega)) (by omega) (by omega)).mono ?_
  rintro e W7 ⟨rfl, hb⟩
  replace r0 := r0.below hb (by omega)
  replace oW := oW.below hb (by omega)
  replace ox0 := ox0.below hb (by omega)
  replace oG := oG.below hb (by omega)
  replace oy0 := oy0.below hb (by omega)
  replace hB := hB.trans (hb.mono (by omega))
  have hs7 := hb.size
  clear hb
  clear oy0
  go_wp2_with fail
  refine (laws_markIntS _ _ _ _ (1) _ _ _ ox0 (by omega) (by omega) (by omega)).mono ?_
  rintro e W8 ⟨rfl, px0, hg⟩
  replace r0 := r0.grown hg (by omega) (fun g hq => by have := ox0.blk g hq; omega)
  replace oW := oW.grown hg (fun g hq => by have := ox0.blk g hq; omega)
  replace oG := oG.grown hg (fun g hq => by have := ox0.blk g hq; omega)
  replace hB := hB.grown hg (by omega) (fun g hq => by have := ox0.blk g hq; omega)
  have hs8 := hg.size
  clear ox0
  have ox0 := px0
  clear px0 hg
  go_wp2_with fail
  refine (laws_eqIntSS _ _ _ _ _ _ _ _ _ (oG.rdm.more (by omega)) (oW.rdm.more (by omega)) (by omega) (by omega) (fun xs hxs => Nat.le_trans (Nc.vanL_row xs0 a1 xs hxs) (by decide)) (fun xs hxs => Nat.le_trans (Nc.vanL_row xs0 a1 xs hxs) (by decide))).mono ?_
  rintro e W9 ⟨rfl, hqt⟩
  have hb := hqt.below
  replace r0 := r0.below hb (by omega)
  replace oW := oW.below hb (by omega)
  replace ox0 := ox0.below hb (by omega)
  replace oG := oG.below hb (by omega)
  replace hB := hB.trans (hb.mono (by omega))
  have hs9 := hb.size
  clear hb hqt
  go_wp2_with fail
  refine (laws_markIntSS _ _ _ _ 1 _ _ _ oG (by omega) (by omega) (by omega) (Nat.le_trans (cells_le (Nc.vanL_len xs0 a1) (Nc.vanL_row xs0 a1)) (by decide))).mono ?_
  rintro e W10 ⟨rfl, pG, hg⟩
  replace r0 := r0.wrote hg (by omega) (by omega)
  replace oW := oW.wrote hg (by omega)
  replace ox0 := ox0.wrote hg (by omega)
  replace hB := hB.trans (hg.below (by omega) (by omega))
  have hs10 := hg.size
  clear oG
  have oG := pG
  clear pG hg
  go_wp2_with fail
  refine (laws_heldIntSS _ _ _ _ 1 _ (oG.rdm.more (by omega)) (by omega) (by omega) (by omega) (Nat.le_trans (cells_le (Nc.vanL_len xs0 a1) (Nc.vanL_row xs0 a1)) (by decide))).mono ?_
  rintro e w' ⟨rfl, rfl⟩
  go_wp2_with fail
  refine (laws_toIntS _ _ _ xs0 _ (r0.more (by omega)) (by omega)).mono ?_
  rintro e W11 ⟨Ah0, nh0, ch0, rfl, oh0, hb⟩
  replace r0 := r0.below hb (by omega)
  replace oW := oW.below hb (by omega)
  replace ox0 := ox0.below hb (by omega)
  replace oG := oG.below hb (by omega)
  replace hB := hB.trans (hb.mono (by omega))
  have hs11 := hb.size
  have lnh0 : nh0 ≤ 1048576 := by have q := oh0.len; simp only [List.length_map, ll0.out] at q; omega
  clear hb
  go_wp2_with fail
  refine (impl_Vandermonde _ _ _ xs0 _ _ (oh0.rd.more (by omega)) (by omega)).mono ?_
  rintro e W12 ⟨AH, nH, cH, rfl, oH, hb⟩
  replace r0 := r0.below hb (by omega)
  replace oW := oW.below hb (by omega)
  replace ox0 := ox0.below hb (by omega)
  replace oG := oG.below hb (by omega)
  replace oh0 := oh0.below hb (by omega)
  replace hB := hB.trans (hb.mono (by omega))
  have hs12 := hb.size
  have lnH : nH ≤ 1099511627776 := by have q := oH.len; have t := Nc.vanL_len xs0 a1; omega
  clear hb
  go_wp2_with fail
  refine (laws_eqIntSS _ _ _ _ _ _ _ _ _ (oH.rdm.more (by omega)) (oW.rdm.more (by omega)) (by omega) (by omega) (fun xs hxs => Nat.le_trans (Nc.vanL_row xs0 a1 xs hxs) (by decide)) (fun xs hxs => Nat.le_trans (Nc.vanL_row xs0 a1 xs hxs) (by decide))).mono ?_
  rintro e W13 ⟨rfl, hqt⟩
  have hb := hqt.below
  replace r0 := r0.below hb (by omega)
  replace oW := oW.below hb (by omega)
  replace ox0 := ox0.below hb (by omega)
  replace oG := oG.below hb (by omega)
  replace oh0 := oh0.below hb (by omega)
  replace oH := oH.below hb (by omega)
  replace hB := hB.trans (hb.mono (by omega))
  have hs13 := hb.size
  clear hb hqt
  go_wp2_with fail
  refine (laws_heldIntSS _ _ _ _ 1 _ (oG.rdm.more (by omega)) (by omega) (by omega) (by omega) (Nat.le_trans (cells_le (Nc.vanL_len xs0 a1) (Nc.vanL_row xs0 a1)) (by decide))).mono ?_
  rintro e w' ⟨rfl, rfl⟩
  go_wp2_with fail
  go_ret
  exact ⟨rfl, hB⟩

/-! ### THE ROW's STEP: WRITTEN OUT: LEAVE IT -/
set_option maxRecDepth 100000 in
theorem lifted (os : Os) (started : os.Started) (H : Type) (enc : TypeId × Value → H) :
    ReturnsInHanded {} Try.checked os 9 .any (Rows.fnExactVandermondeSpec.pre6 enc Try.prog Try.f9 Rows.fnExactVandermondeRow.domain false) (Rows.fnExactVandermondeSpec.post enc Try.prog Try.f9 false true false false) := by
  refine returnsInHanded_of_change (C := Try.checked) own started (by kernel_rfl) Try.func9
    (ChangeSpec.witness6 (enc := enc) (C := Try.checked) false ⟨#[], #[.slice none 0 0, .int .i64 0], []⟩ 8 (by kernel_rfl) (by kernel_rfl) (by kernel_rfl) (by kernel_rfl)) ?_
  intro W base args ds gs before hval0 hW hcnd _
  have hval : ∀ (j : Nat) t v, Try.f9.params[j]? = some t → args[j]? = some v → Value.okWide Try.prog W .any base t v := hval0
  have hW' := hW
  obtain ⟨p, q, hA0, hV, rfl, hfz, hnd⟩ := hW
  have hA : DataW.TrodAll enc Try.prog W 0 (fun _ => true) true Try.f9.params.toList args.toList ds p := hA0
  rw [Try.params9] at hA hval
  obtain ⟨v0, vs0, d0, ds0, p0, q0, hargs, rfl, rfl, h0, r0⟩ := trodAll_cons hA
  obtain ⟨v1, vs1, d1, ds1, p1, q1, rfl, rfl, rfl, h1, r1⟩ := trodAll_cons r0
  obtain ⟨rfl, rfl, rfl⟩ := trodAll_nil r1
  obtain rfl : args = #[v0, v1] := by cases args; simp_all
  obtain ⟨rfl, rfl⟩ := trodVars_none hV
  obtain ⟨a0, len0, cap0, rfl⟩ := okWide_slice Try.underlying22 (hval 0 22 v0 rfl rfl)
  have k0 := h0
  have lt0 : ∀ x ∈ p0, x.block < W.heap.size := by obtain ⟨m, hm⟩ := k0; exact DataW.trod_lt m _ _ _ hm
  obtain ⟨z0, w0⟩ : ∃ zs, IsRow .i64 W a0 len0 cap0 zs := by
    obtain ⟨fuel, hf⟩ := h0
    rcases open_ints Try.underlying22 Try.underlying3 (by kernel_rfl) hf with ⟨hcs, _⟩ | ⟨x, l, c, zs, hcs, _, hl, hm, hz, _, hcell, hwz⟩
    · simp [Value.cells] at hcs
      obtain ⟨rfl, rfl, rfl⟩ := hcs
      exact ⟨[], .inl ⟨rfl, rfl, rfl, rfl⟩⟩
    · simp [Value.cells] at hcs
      obtain ⟨rfl, rfl, rfl⟩ := hcs
      exact ⟨zs, .inr ⟨_, rfl, hl, hm, by simpa using hz, hcell, hwz⟩⟩
  obtain ⟨a1, rfl, rfl, rfl, w1⟩ := open_int Try.underlying3 (hval 1 3 v1 rfl rfl) h1
  clear hA0 hval0
  refine (walk a0 len0 cap0 z0 a1 W w0 w1).mono fun e W' ⟨he, bel⟩ => ?_
  subst he
  exact ⟨_, rfl, _, _, _, [], _, [], hW', trodAll_mk1 (shut_bool Try.underlying4 _), (trodAll_cons_mk (Below.trod laidOut (by kernel_rfl) (of_decide_eq_true (by kernel_rfl)) k0 bel lt0) (trodAll_cons_mk (shut_int Try.underlying3 w1) trodAll_mk0)), rfl, bel.frame _, fun h => by cases h⟩

theorem over : Rows.fnExactVandermondeRow.holds Try.pinned (OpenSpec.ofChange Rows.fnExactVandermondeSpec) :=
  OpenClaim.holds_of_wide 9 Try.f9 rfl rfl rfl rfl rfl rfl rfl ⟨rfl, rfl, rfl, rfl, rfl⟩ rfl rfl rfl rfl rfl (by kernel_rfl) Try.func9 (by kernel_rfl)
    (of_decide_eq_true (by kernel_rfl)) (by unfold Func.isWrapper; first | (rw [if_pos (by decide +kernel)]; kernel_rfl) | (rw [if_neg (by decide +kernel)]; exact ⟨rfl, rfl⟩))
    (fun os started H enc _ => lifted os started H enc)

/-- ████ THE STATEMENT ████ -/
theorem proved : Rows.FnExactVandermondeSaid := over
#print axioms proved
end Go.Proofs.Ytlcepceomlfnbaa.fnExactVandermonde
