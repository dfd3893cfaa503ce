/- The law FnExactDecrypt returns true for every input, and its arguments read afterwards as before. Conditions: none. -/
import Derived.Test.YtgnngecfkocjhaaRows
import Derived.WalkKit
import Derived.ProofKit
import Derived.OpenShut
import Derived.Test.YtgnngecfkocjhaaCry
import Derived.Test.YtgnngecfkocjhaaLawkit
import Derived.ShutString
import Derived.ChangeOld
import Derived.Below
namespace Go.Proofs.Ytgnngecfkocjhaa.fnExactDecrypt
open Go.ChangeShapes Go.WideShapes Go.ChangeAt Go.RowKit
open Go.ChangeMaps (open_string shut_string)
set_option linter.unusedVariables false

theorem own : ownKnob Try.prog.godebug = none := by kernel_rfl
theorem laidOut : laidOutB Try.prog = true := by kernel_rfl

/-- WHAT THE WALK IS TOLD OF A SLICE OF INTEGERS THAT CAME IN: it is nil; or it leads to a row of 'cap' cells, the numbers 'zs' (the first 'len' are its elements, the rest its spare room), each fitting its kind. -/
def IsRow (k : IntKind) (w : World) (a : Option Addr) (len cap : Nat) (zs : List Int) : Prop :=
  (a = none ∧ len = 0 ∧ cap = 0 ∧ zs = []) ∨
  ∃ x, a = some x ∧ len ≤ cap ∧ cap ≤ maxLen ∧ zs.length = cap ∧ (∀ i, i < zs.length → w.cell? (x.add i) = some (.int k (zs.getD i 0))) ∧ ∀ n ∈ zs, (Lit.int k n).wf = true

/-! ### STEP 1: THE WALK: the Go text returns true, AND WRITES NOTHING THAT WAS THERE: 'Below w.heap.size w w'' (Derived/Below.lean: '.refl', '.alloc', '.drew', '.setCell' at a new block, '.trans'). Open each 'IsRow' by 'rcases' AHEAD of 'go_enter'; part every test ahead of the walk. -/
theorem walk (a0 : Int) (a1 : Option Addr) (len1 cap1 : Nat) (z1 : List Int) (w : World) (w0 : (Lit.int .i64 a0).wf = true) (w1 : IsRow .u8 w a1 len1 cap1 z1) :
    Calls Try.prog 12 #[.int .i64 a0, .slice a1 len1 cap1] w fun e w' => e = .returned (.bool true) ∧ Below w.heap.size w w' := by
  obtain ⟨xs1, r1, v1, hlc1, hcm1⟩ := rd_of_row w1
  have V1 := Lib.hid v1
  clear w1 v1 hcm1
  have hB : Below w.heap.size w w := Below.refl _ _
  by_cases hn1 : len1 ≤ 1048576
  rotate_left
  · go_enter Try.func12, Try.ntmps12
    go_wp2_with fail
    go_ret
    exact ⟨rfl, hB⟩
  have ll1 := Lib.hid r1.ilen
  go_enter Try.func12, Try.ntmps12
  go_wp2_with fail
  refine (laws_toByteS _ _ _ xs1 _ (r1.more (by omega)) (by omega)).mono ?_
  rintro e W1 ⟨As1, ns1, cs1, rfl, os1, hb⟩
  replace r1 := r1.below hb (by omega)
  replace hB := hB.trans (hb.mono (by omega))
  have hs1 := hb.size
  have lns1 : ns1 ≤ 1048576 := by have q := os1.len; simp only [List.length_map, ll1.out] at q; omega
  clear hb
  go_wp2_with fail
  refine (spec_Decrypt _ _ _ _ xs1 _ (os1.rd.more (by omega)) (fun x hx => bounds_u8 (V1.out x hx)) (by omega)).mono ?_
  rintro e W2 ⟨AW, nW, cW, rfl, oW, hb⟩
  replace r1 := r1.below hb (by omega)
  replace os1 := os1.below hb (by omega)
  replace hB := hB.trans (hb.mono (by omega))
  have hs2 := hb.size
  have lnW : nW ≤ 1099511627776 := by have q := oW.len; simp only [List.length_map, Nc.decB, List.length_mapIdx, ll1.out] at q; omega
  clear hb
  clear os1
  go_wp2_with fail
  refine (laws_toByteS _ _ _ xs1 _ (r1.more (by omega)) (by omega)).mono ?_
  rintro e W3 ⟨Ax1, nx1, cx1, rfl, ox1, hb⟩
  replace r1 := r1.below hb (by omega)
  replace oW := oW.below hb (by omega)
  replace hB := hB.trans (hb.mono (by omega))
  have hs3 := hb.size
  have lnx1 : nx1 ≤ 1048576 := by have q := ox1.len; simp only [List.length_map, ll1.out] at q; omega
  clear hb
  go_wp2_with fail
  refine (impl_Decrypt _ _ _ _ xs1 _ (ox1.rd.more (by omega)) (fun x hx => bounds_u8 (V1.out x hx)) (by omega)).mono ?_
  rintro e W4 ⟨AG, nG, cG, rfl, oG, hb⟩
  replace r1 := r1.below hb (by omega)
  replace oW := oW.below hb (by omega)
  replace ox1 := ox1.below hb (by omega)
  replace hB := hB.trans (hb.mono (by omega))
  have hs4 := hb.size
  have lnG : nG ≤ 1099511627776 := by have q := oG.len; simp only [List.length_map, Nc.decB, List.length_mapIdx, ll1.out] at q; omega
  clear hb
  go_wp2_with fail
  refine (laws_eqByteS _ _ _ _ _ _ _ _ _ (oG.rd.more (by omega)) (oW.rd.more (by omega)) (by omega) (by omega)).mono ?_
  rintro e W5 ⟨rfl, hb⟩
  replace r1 := r1.below hb (by omega)
  replace oW := oW.below hb (by omega)
  replace ox1 := ox1.below hb (by omega)
  replace oG := oG.below hb (by omega)
  replace hB := hB.trans (hb.mono (by omega))
  have hs5 := hb.size
  clear hb
  go_wp2_with fail
  refine (laws_toByteS _ _ _ xs1 _ (r1.more (by omega)) (by omega)).mono ?_
  rintro e W6 ⟨Ay1, ny1, cy1, rfl, oy1, hb⟩
  replace r1 := r1.below hb (by omega)
  replace oW := oW.below hb (by omega)
  replace ox1 := ox1.below hb (by omega)
  replace oG := oG.below hb (by omega)
  replace hB := hB.trans (hb.mono (by omega))
  have hs6 := hb.size
  have lny1 : ny1 ≤ 1048576 := by have q := oy1.len; simp only [List.length_map, ll1.out] at q; omega
  clear hb
  go_wp2_with fail
  refine (laws_eqByteS _ _ _ _ _ _ _ _ _ (ox1.rd.more (by omega)) (oy1.rd.more (by omega)) (by omega) (by omega)).mono ?_
  rintro e W7 ⟨rfl, hb⟩
  replace r1 := r1.below hb (by omega)
  replace oW := oW.below hb (by omega)
  replace ox1 := ox1.below hb (by omega)
  replace oG := oG.below hb (by omega)
  replace oy1 := oy1.below hb (by omega)
  replace hB := hB.trans (hb.mono (by omega))
  have hs7 := hb.size
  clear hb
  clear oy1
  go_wp2_with fail
  refine (laws_markByteS _ _ _ _ (1) _ _ _ ox1 (by omega) (by omega) (by omega)).mono ?_
  rintro e W8 ⟨rfl, px1, hg⟩
  replace r1 := r1.grown hg (by omega) (fun g hq => by have := ox1.blk g hq; omega)
  replace oW := oW.grown hg (fun g hq => by have := ox1.blk g hq; omega)
  replace oG := oG.grown hg (fun g hq => by have := ox1.blk g hq; omega)
  replace hB := hB.grown hg (by omega) (fun g hq => by have := ox1.blk g hq; omega)
  have hs8 := hg.size
  clear ox1
  have ox1 := px1
  clear px1 hg
  go_wp2_with fail
  refine (laws_eqByteS _ _ _ _ _ _ _ _ _ (oG.rd.more (by omega)) (oW.rd.more (by omega)) (by omega) (by omega)).mono ?_
  rintro e W9 ⟨rfl, hb⟩
  replace r1 := r1.below hb (by omega)
  replace oW := oW.below hb (by omega)
  replace ox1 := ox1.below hb (by omega)
  replace oG := oG.below hb (by omega)
  replace hB := hB.trans (hb.mono (by omega))
  have hs9 := hb.size
  clear hb
  go_wp2_with fail
  refine (laws_markByteS _ _ _ _ 1 _ _ _ oG (by omega) (by omega) (by omega)).mono ?_
  rintro e W10 ⟨rfl, pG, hg⟩
  replace r1 := r1.grown hg (by omega) (fun g hq => by have := oG.blk g hq; omega)
  replace oW := oW.grown hg (fun g hq => by have := oG.blk g hq; omega)
  replace ox1 := ox1.grown hg (fun g hq => by have := oG.blk g hq; omega)
  replace hB := hB.grown hg (by omega) (fun g hq => by have := oG.blk g hq; omega)
  have hs10 := hg.size
  clear oG
  have oG := pG
  clear pG hg
  go_wp2_with fail
  refine (laws_heldByteS _ _ _ 1 _ (oG.rd.more (by omega)) (by omega) (by omega) (by omega)).mono ?_
  rintro e w' ⟨rfl, rfl⟩
  go_wp2_with fail
  refine (laws_toByteS _ _ _ xs1 _ (r1.more (by omega)) (by omega)).mono ?_
  rintro e W11 ⟨Ah1, nh1, ch1, rfl, oh1, hb⟩
  replace r1 := r1.below hb (by omega)
  replace oW := oW.below hb (by omega)
  replace ox1 := ox1.below hb (by omega)
  replace oG := oG.below hb (by omega)
  replace hB := hB.trans (hb.mono (by omega))
  have hs11 := hb.size
  have lnh1 : nh1 ≤ 1048576 := by have q := oh1.len; simp only [List.length_map, ll1.out] at q; omega
  clear hb
  go_wp2_with fail
  refine (impl_Decrypt _ _ _ _ xs1 _ (oh1.rd.more (by omega)) (fun x hx => bounds_u8 (V1.out x hx)) (by omega)).mono ?_
  rintro e W12 ⟨AH, nH, cH, rfl, oH, hb⟩
  replace r1 := r1.below hb (by omega)
  replace oW := oW.below hb (by omega)
  replace ox1 := ox1.below hb (by omega)
  replace oG := oG.below hb (by omega)
  replace oh1 := oh1.below hb (by omega)
  replace hB := hB.trans (hb.mono (by omega))
  have hs12 := hb.size
  have lnH : nH ≤ 1099511627776 := by have q := oH.len; simp only [List.length_map, Nc.decB, List.length_mapIdx, ll1.out] at q; omega
  clear hb
  go_wp2_with fail
  refine (laws_eqByteS _ _ _ _ _ _ _ _ _ (oH.rd.more (by omega)) (oW.rd.more (by omega)) (by omega) (by omega)).mono ?_
  rintro e W13 ⟨rfl, hb⟩
  replace r1 := r1.below hb (by omega)
  replace oW := oW.below hb (by omega)
  replace ox1 := ox1.below hb (by omega)
  replace oG := oG.below hb (by omega)
  replace oh1 := oh1.below hb (by omega)
  replace oH := oH.below hb (by omega)
  replace hB := hB.trans (hb.mono (by omega))
  have hs13 := hb.size
  clear hb
  go_wp2_with fail
  refine (laws_heldByteS _ _ _ 1 _ (oG.rd.more (by omega)) (by omega) (by omega) (by omega)).mono ?_
  rintro e w' ⟨rfl, rfl⟩
  go_wp2_with fail
  go_ret
  exact ⟨rfl, hB⟩

/-! ### THE ROW's STEP: WRITTEN OUT: LEAVE IT -/
set_option maxRecDepth 100000 in
theorem lifted (os : Os) (started : os.Started) (H : Type) (enc : TypeId × Value → H) :
    ReturnsInHanded {} Try.checked os 12 .any (Rows.fnExactDecryptSpec.pre6 enc Try.prog Try.f12 Rows.fnExactDecryptRow.domain false) (Rows.fnExactDecryptSpec.post enc Try.prog Try.f12 false true false false) := by
  refine returnsInHanded_of_change (C := Try.checked) own started (by kernel_rfl) Try.func12
    (ChangeSpec.witness6 (enc := enc) (C := Try.checked) false ⟨#[], #[.int .i64 0, .slice none 0 0], []⟩ 8 (by kernel_rfl) (by kernel_rfl) (by kernel_rfl) (by kernel_rfl)) ?_
  intro W base args ds gs before hval0 hW hcnd _
  have hval : ∀ (j : Nat) t v, Try.f12.params[j]? = some t → args[j]? = some v → Value.okWide Try.prog W .any base t v := hval0
  have hW' := hW
  obtain ⟨p, q, hA0, hV, rfl, hfz, hnd⟩ := hW
  have hA : DataW.TrodAll enc Try.prog W 0 (fun _ => true) true Try.f12.params.toList args.toList ds p := hA0
  rw [Try.params12] at hA hval
  obtain ⟨v0, vs0, d0, ds0, p0, q0, hargs, rfl, rfl, h0, r0⟩ := trodAll_cons hA
  obtain ⟨v1, vs1, d1, ds1, p1, q1, rfl, rfl, rfl, h1, r1⟩ := trodAll_cons r0
  obtain ⟨rfl, rfl, rfl⟩ := trodAll_nil r1
  obtain rfl : args = #[v0, v1] := by cases args; simp_all
  obtain ⟨rfl, rfl⟩ := trodVars_none hV
  obtain ⟨a0, rfl, rfl, rfl, w0⟩ := open_int Try.underlying3 (hval 0 3 v0 rfl rfl) h0
  obtain ⟨a1, len1, cap1, rfl⟩ := okWide_slice Try.underlying22 (hval 1 22 v1 rfl rfl)
  have k1 := h1
  have lt1 : ∀ x ∈ p1, x.block < W.heap.size := by obtain ⟨m, hm⟩ := k1; exact DataW.trod_lt m _ _ _ hm
  obtain ⟨z1, w1⟩ : ∃ zs, IsRow .u8 W a1 len1 cap1 zs := by
    obtain ⟨fuel, hf⟩ := h1
    rcases open_ints Try.underlying22 Try.underlying5 (by kernel_rfl) hf with ⟨hcs, _⟩ | ⟨x, l, c, zs, hcs, _, hl, hm, hz, _, hcell, hwz⟩
    · simp [Value.cells] at hcs
      obtain ⟨rfl, rfl, rfl⟩ := hcs
      exact ⟨[], .inl ⟨rfl, rfl, rfl, rfl⟩⟩
    · simp [Value.cells] at hcs
      obtain ⟨rfl, rfl, rfl⟩ := hcs
      exact ⟨zs, .inr ⟨_, rfl, hl, hm, by simpa using hz, hcell, hwz⟩⟩
  clear hA0 hval0
  refine (walk a0 a1 len1 cap1 z1 W w0 w1).mono fun e W' ⟨he, bel⟩ => ?_
  subst he
  exact ⟨_, rfl, _, _, _, [], _, [], hW', trodAll_mk1 (shut_bool Try.underlying4 _), (trodAll_cons_mk (shut_int Try.underlying3 w0) (trodAll_cons_mk (Below.trod laidOut (by kernel_rfl) (of_decide_eq_true (by kernel_rfl)) k1 bel lt1) trodAll_mk0)), rfl, bel.frame _, fun h => by cases h⟩

theorem over : Rows.fnExactDecryptRow.holds Try.pinned (OpenSpec.ofChange Rows.fnExactDecryptSpec) :=
  OpenClaim.holds_of_wide 12 Try.f12 rfl rfl rfl rfl rfl rfl rfl ⟨rfl, rfl, rfl, rfl, rfl⟩ rfl rfl rfl rfl rfl (by kernel_rfl) Try.func12 (by kernel_rfl)
    (of_decide_eq_true (by kernel_rfl)) (by unfold Func.isWrapper; first | (rw [if_pos (by decide +kernel)]; kernel_rfl) | (rw [if_neg (by decide +kernel)]; exact ⟨rfl, rfl⟩))
    (fun os started H enc _ => lifted os started H enc)

/-- ████ THE STATEMENT ████ -/
theorem proved : Rows.FnExactDecryptSaid := over
#print axioms proved
end Go.Proofs.Ytgnngecfkocjhaa.fnExactDecrypt
