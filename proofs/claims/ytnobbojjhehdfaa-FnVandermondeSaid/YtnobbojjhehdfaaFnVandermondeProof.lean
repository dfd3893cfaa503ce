/- The law FnVandermonde returns true for every input, and its arguments read afterwards as before. Conditions: none. -/
import Derived.Test.YtnobbojjhehdfaaRows
import Derived.WalkKit
import Derived.ProofKit
import Derived.OpenShut
import Derived.Test.YtnobbojjhehdfaaDraw4
import Derived.Test.YtnobbojjhehdfaaAtI
import Derived.Test.YtnobbojjhehdfaaRank
import Derived.Test.YtnobbojjhehdfaaSame
import Derived.Test.YtnobbojjhehdfaaLawkit2
import Derived.ShutString
import Derived.ChangeOld
import Derived.Below
namespace Go.Proofs.Ytnobbojjhehdfaa.fnVandermonde
open Go.ChangeShapes Go.WideShapes Go.ChangeAt Go.RowKit
open Go.ChangeMaps (open_string shut_string)
set_option linter.unusedVariables false

theorem own : ownKnob Try.prog.godebug = none := by kernel_rfl
theorem laidOut : laidOutB Try.prog = true := by kernel_rfl

/-- WHAT THE WALK IS TOLD OF A SLICE OF INTEGERS THAT CAME IN: it is nil; or it leads to a row of 'cap' cells, the numbers 'zs' (the first 'len' are its elements, the rest its spare room), each fitting its kind. -/
def IsRow (k : IntKind) (w : World) (a : Option Addr) (len cap : Nat) (zs : List Int) : Prop :=
  (a = none ∧ len = 0 ∧ cap = 0 ∧ zs = []) ∨
  ∃ x, a = some x ∧ len ≤ cap ∧ cap ≤ maxLen ∧ zs.length = cap ∧ (∀ i, i < zs.length → w.cell? (x.add i) = some (.int k (zs.getD i 0))) ∧ ∀ n ∈ zs, (Lit.int k n).wf = true

/-! ### STEP 1: THE WALK: the Go text returns true, AND WRITES NOTHING THAT WAS THERE: 'Below w.heap.size w w'' (Derived/Below.lean: '.refl', '.alloc', '.drew', '.setCell' at a new block, '.trans'). Open each 'IsRow' by 'rcases' AHEAD of 'go_enter'; part every test ahead of the walk. -/
set_option maxRecDepth 100000 in
set_option maxHeartbeats 4000000 in
theorem walk (a0 : Option Addr) (len0 cap0 : Nat) (z0 : List Int) (w : World) (w0 : IsRow .u8 w a0 len0 cap0 z0) :
    Calls Try.prog 12 #[.slice a0 len0 cap0] w fun e w' => e = .returned (.bool true) ∧ Below w.heap.size w w' := by
  obtain ⟨i0, hi0, hz0, hz1, hz2⟩ := info_parts Try.info_int
  obtain ⟨xs, hr, hv, hlc, hcm⟩ := rd_of_row w0
  have HZ := Lib.hid (show ∀ x ∈ xs, 0 ≤ x ∧ x ≤ 255 from fun x hx => bounds_u8 (hv x hx))
  clear w0 hv hcm
  by_cases hn : len0 ≤ 1048576
  rotate_left
  · have HBIG := Lib.hid (show decide ((1048576 : Int) < len0) = true by simp; omega)
    go_enter Try.func12, Try.ntmps12
    go_wp2_with fail
    refine (laws_big _ _ _ _).mono ?_
    rintro e w' ⟨rfl, rfl⟩
    rw [HBIG.out]
    go_wp2_with fail
    go_ret
    exact ⟨rfl, Below.refl _ _⟩
  have HBIG := Lib.hid (show decide ((1048576 : Int) < len0) = false by simp; omega)
  have hB : Below w.heap.size w w := Below.refl _ _
  go_enter Try.func12, Try.ntmps12
  go_wp2_with fail
  refine (laws_big _ _ _ _).mono ?_
  rintro e w' ⟨rfl, rfl⟩
  rw [HBIG.out]
  obtain ⟨t0, t1⟩ := Nc.atV_bd HZ.out 0
  obtain ⟨t, ht⟩ : ∃ t, t = Nc.atV xs 0 := ⟨_, rfl⟩
  rw [← ht] at t0 t1
  have HT := Lib.hid ht.symm
  clear ht hB
  go_wp2_with fail
  go_loopw [3, 4] (fun v i wr => ∃ (k n : Nat) (A1 : Option Addr) (c1 : Nat) (zs : List Int), k ≤ 6 ∧ n ≤ k ∧ (0 < k → 0 < n) ∧ i = .int .i64 k ∧ v = .slice A1 n c1 ∧ Own wr w.heap.size wr.heap.size 3 A1 n c1 (zs.map (.int .i64)) ∧ Hid (zs.Nodup) ∧ Nc.allIn 0 770 zs ∧ Below w.heap.size w wr) (fun _ i _ => 7 - (intOf i).toNat)
  case atStart => exact ⟨0, 0, _, _, [], by omega, by omega, by omega, rfl, rfl, Own.of (World.ownsRow_lit w #[] 0 (Nat.le_refl _) (by decide) rfl) (Nat.le_refl _), Lib.hid List.nodup_nil, Nc.allIn_nil _ _, (Below.refl _ _).alloc (Nat.le_refl _) _⟩
  case round =>
    obtain ⟨k, n, A1, c1, zs, hk, hnk, hpos, rfl, rfl, hown, hnd, hall, hbr⟩ := hrel
    have hszr := hbr.size
    have HPOS := Lib.hid hpos
    have hr2 : Rd wr wr.heap.size a0 len0 (xs.map (.int .u8)) := (hr.below hbr (by omega)).more (by omega)
    have HLZ := Lib.hid (show zs.length = n by have q := hown.len; simpa using q)
    clear hpos
    go_wp2_with fail
    refine (laws_at _ _ _ xs 0 _ hr2 HZ.out hn (by omega)).mono ?_
    rintro e w' ⟨rfl, rfl⟩
    rw [HT.out]
    by_cases hlt : (k : Int) < 1 + t % 6
    · obtain ⟨p0, p1⟩ := Nc.atV_bd HZ.out (k + 1)
      go_wp2_with fail
      refine (laws_atI _ _ _ xs (k + 1) _ _ (by omega) hr2 HZ.out hn (by omega)).mono ?_
      rintro e w' ⟨rfl, rfl⟩
      generalize Nc.atV xs (k + 1) = p at p0 p1 ⊢
      go_wp2_with fail
      refine (laws_contains _ _ _ zs _ _ (hown.rd.more (by omega)) (by omega)).mono ?_
      rintro e w' ⟨rfl, rfl⟩
      by_cases hin : p * 3 + (k : Int) ∈ zs
      · have HIN := Lib.hid (show decide (p * 3 + (k : Int) ∈ zs) = true from decide_eq_true hin)
        have hn0 : 0 < n := by rw [← HLZ.out]; exact List.length_pos_of_mem hin
        clear hin
        rw [HIN.out]
        go_wp2_with fail
        go_roundw
        case rel => exact ⟨k + 1, n, A1, c1, zs, by omega, by omega, fun _ => hn0, by go_num, rfl, hown, hnd, hall, hbr⟩
        case measure => simp [intOf]; omega
      · have HIN := Lib.hid (show decide (p * 3 + (k : Int) ∈ zs) = false from decide_eq_false hin)
        have HND := Lib.hid (show (zs ++ [p * 3 + (k : Int)]).Nodup from List.nodup_append.2 ⟨hnd.out, by simp, fun x hx y hy e => hin (by rw [List.mem_singleton] at hy; rw [← hy, ← e]; exact hx)⟩)
        clear hin
        rw [HIN.out]
        go_wp2_with (first | (at_builtin; refine wpList_app1 _ rfl _ _ _ rfl w.heap.size 3 i0 _ 8 Try.underlying30 hi0 hz0 hz1 hz2 rfl A1 n c1 _ rfl hown.1 (.int .i64 (p * 3 + (k : Int))) rfl _ rfl (by unfold maxLen; omega) (by omega) hszr ?_; intro A3 c3 w3 hown3 hb3) | fail)
        go_roundw
        case rel => exact ⟨k + 1, n + 1, A3, c3, zs ++ [p * 3 + (k : Int)], by omega, by omega, fun _ => by omega, by go_num, rfl, by rw [List.map_append]; exact Own.of hown3 (Nat.le_refl _), HND, Nc.allIn_snoc hall (by omega) (by omega), hbr.trans hb3⟩
        case measure => simp [intOf]; omega
    · have hn0 : 0 < n := HPOS.out (by omega)
      have op := hown
      have hB := hbr
      clear hown hbr hr2
      have hr2 := hr.below hB (Nat.le_refl _)
      clear hr
      have hr := hr2
      clear hr2
      have hs0 := hB.size
      have HEL := Lib.hid (show ∀ x ∈ zs, 0 ≤ x ∧ x ≤ 1018 from fun x hx => by have := hall x hx; omega)
      go_wp2_with fail
      refine (laws_at _ _ _ xs 9 _ (hr.more (by omega)) HZ.out hn (by omega)).mono ?_
      rintro e w' ⟨rfl, rfl⟩
      obtain ⟨u0, u1⟩ := Nc.atV_bd HZ.out 9
      generalize Nc.atV xs 9 = u at u0 u1 ⊢
      obtain ⟨q, hq⟩ := Int.eq_ofNat_of_zero_le (show 0 ≤ 1 + u % 5 by omega)
      have hq1 : 1 ≤ q := by omega
      have hq5 : q ≤ 5 := by omega
      have HQ := Lib.hid hq
      clear hq
      go_wp2_with fail
      rw [HQ.out]
      have HV := Lib.hid (show Nc.vecB zs = true from Nc.vecB_mk HEL.out (by rw [HLZ.out]; omega))
      have HVAN := Lib.hid (show Nc.vanL zs (q : Int) = Nc.vanR zs q by unfold Nc.vanL; rw [HV.out, Nc.inB_of (show (0 : Int) ≤ q by omega) (by omega)]; simp)
      have HSH := Lib.hid (show Nc.shape (Nc.vanR zs q) n q by have t := Nc.van_shape (ps := zs) q (by omega); rw [HLZ.out] at t; exact t)
      have HFU := Lib.hid (show Nc.Full (Nc.vanR zs q) n q by have t := Nc.van_full hnd.out HEL.out q; rw [HLZ.out] at t; exact t)
      have HMB := Lib.hid (Nc.shape_mat HSH.out (by omega))
      have HRB := Lib.hid (show ∀ xs ∈ Nc.vanR zs q, xs.length ≤ 9223372036854775806 from fun xs hxs => by rw [(HSH.out.2 xs hxs).2]; omega)
      have HMIN := Lib.hid (show Nc.minI (n : Int) (q : Int) = ((min n q : Nat) : Int) by unfold Nc.minI; split <;> omega)
      go_wp2_with fail
      refine (impl_Vandermonde _ _ _ zs _ _ (op.rd.more (by omega)) (by omega)).mono ?_
      rintro e W1 ⟨Am, nm, cm, rfl, om, hb⟩
      rw [HVAN.out] at om
      obtain rfl : n = nm := by have t := om.len; rw [HSH.out.1] at t; exact t
      have hee : ((n : Int) == n) = true := by simp
      replace hr := hr.below hb (by omega)
      replace op := op.below hb (by omega)
      have hs1 := hb.size
      replace hB := hB.trans (hb.mono (by omega))
      clear hb
      go_wp2_with fail
      refine (impl_IsValidMatrix _ _ _ (Nc.vanR zs q) _ (om.rdm.more (by omega)) (by omega) HRB.out).mono ?_
      rintro e w' ⟨rfl, rfl⟩
      rw [HMB.out]
      go_wp2_with fail
      refine (spec_Rank _ _ _ (Nc.vanR zs q) q _ (om.rdm.more (by omega)) HSH.out HFU.out hn0 (by omega) (by omega)).mono ?_
      rintro e W2 ⟨rfl, hb⟩
      replace hr := hr.below hb (by omega)
      replace op := op.below hb (by omega)
      replace om := om.below hb (by omega)
      have hs2 := hb.size
      replace hB := hB.trans (hb.mono (by omega))
      clear hb
      go_wp2_with fail
      refine (spec_Min _ _ _).mono ?_
      rintro e w' ⟨rfl, rfl⟩
      rw [HMIN.out]
      go_wp2_with fail
      refine (spec_Vandermonde _ _ _ zs _ _ (op.rd.more (by omega)) (by omega)).mono ?_
      rintro e W3 ⟨Av, nv, cv, rfl, ov, hb⟩
      rw [HVAN.out] at ov
      have lv : nv ≤ 40 := by have t := ov.len; rw [HSH.out.1] at t; omega
      replace hr := hr.below hb (by omega)
      replace op := op.below hb (by omega)
      replace om := om.below hb (by omega)
      have hs3 := hb.size
      replace hB := hB.trans (hb.mono (by omega))
      clear hb
      go_wp2_with fail
      refine (laws_sameRows _ _ _ _ _ _ (Nc.vanR zs q) (Nc.vanR zs q) _ (om.rdm.more (by omega)) (ov.rdm.more (by omega)) (by omega) (by omega) HRB.out HRB.out).mono ?_
      rintro e W4 ⟨rfl, hqt⟩
      have hb := hqt.below
      replace hr := hr.below hb (by omega)
      replace op := op.below hb (by omega)
      replace om := om.below hb (by omega)
      replace ov := ov.below hb (by omega)
      have hs4 := hb.size
      replace hB := hB.trans (hb.mono (by omega))
      clear hb
      clear hqt
      rw [show decide (Nc.vanR zs q = Nc.vanR zs q) = true from decide_eq_true rfl]
      go_wp2_with fail
      go_ret
      exact ⟨rfl, hB⟩

/-! ### THE ROW's STEP: WRITTEN OUT: LEAVE IT -/
set_option maxRecDepth 100000 in
theorem lifted (os : Os) (started : os.Started) (H : Type) (enc : TypeId × Value → H) :
    ReturnsInHanded {} Try.checked os 12 .any (Rows.fnVandermondeSpec.pre6 enc Try.prog Try.f12 Rows.fnVandermondeRow.domain false) (Rows.fnVandermondeSpec.post enc Try.prog Try.f12 false true false false) := by
  refine returnsInHanded_of_change (C := Try.checked) own started (by kernel_rfl) Try.func12
    (ChangeSpec.witness6 (enc := enc) (C := Try.checked) false ⟨#[], #[.slice none 0 0], []⟩ 8 (by kernel_rfl) (by kernel_rfl) (by kernel_rfl) (by kernel_rfl)) ?_
  intro W base args ds gs before hval0 hW hcnd _
  have hval : ∀ (j : Nat) t v, Try.f12.params[j]? = some t → args[j]? = some v → Value.okWide Try.prog W .any base t v := hval0
  have hW' := hW
  obtain ⟨p, q, hA0, hV, rfl, hfz, hnd⟩ := hW
  have hA : DataW.TrodAll enc Try.prog W 0 (fun _ => true) true Try.f12.params.toList args.toList ds p := hA0
  rw [Try.params12] at hA hval
  obtain ⟨v0, vs0, d0, ds0, p0, q0, hargs, rfl, rfl, h0, r0⟩ := trodAll_cons hA
  obtain ⟨rfl, rfl, rfl⟩ := trodAll_nil r0
  obtain rfl : args = #[v0] := by cases args; simp_all
  obtain ⟨rfl, rfl⟩ := trodVars_none hV
  obtain ⟨a0, len0, cap0, rfl⟩ := okWide_slice Try.underlying22 (hval 0 22 v0 rfl rfl)
  have k0 := h0
  have lt0 : ∀ x ∈ p0, x.block < W.heap.size := by obtain ⟨m, hm⟩ := k0; exact DataW.trod_lt m _ _ _ hm
  obtain ⟨z0, w0⟩ : ∃ zs, IsRow .u8 W a0 len0 cap0 zs := by
    obtain ⟨fuel, hf⟩ := h0
    rcases open_ints Try.underlying22 Try.underlying5 (by kernel_rfl) hf with ⟨hcs, _⟩ | ⟨x, l, c, zs, hcs, _, hl, hm, hz, _, hcell, hwz⟩
    · simp [Value.cells] at hcs
      obtain ⟨rfl, rfl, rfl⟩ := hcs
      exact ⟨[], .inl ⟨rfl, rfl, rfl, rfl⟩⟩
    · simp [Value.cells] at hcs
      obtain ⟨rfl, rfl, rfl⟩ := hcs
      exact ⟨zs, .inr ⟨_, rfl, hl, hm, by simpa using hz, hcell, hwz⟩⟩
  clear hA0 hval0
  refine (walk a0 len0 cap0 z0 W w0).mono fun e W' ⟨he, bel⟩ => ?_
  subst he
  exact ⟨_, rfl, _, _, _, [], _, [], hW', trodAll_mk1 (shut_bool Try.underlying4 _), (trodAll_cons_mk (Below.trod laidOut (by kernel_rfl) (of_decide_eq_true (by kernel_rfl)) k0 bel lt0) trodAll_mk0), rfl, bel.frame _, fun h => by cases h⟩

theorem over : Rows.fnVandermondeRow.holds Try.pinned (OpenSpec.ofChange Rows.fnVandermondeSpec) :=
  OpenClaim.holds_of_wide 12 Try.f12 rfl rfl rfl rfl rfl rfl rfl ⟨rfl, rfl, rfl, rfl, rfl⟩ rfl rfl rfl rfl rfl (by kernel_rfl) Try.func12 (by kernel_rfl)
    (of_decide_eq_true (by kernel_rfl)) (by unfold Func.isWrapper; first | (rw [if_pos (by decide +kernel)]; kernel_rfl) | (rw [if_neg (by decide +kernel)]; exact ⟨rfl, rfl⟩))
    (fun os started H enc _ => lifted os started H enc)

/-- ████ THE STATEMENT ████ -/
theorem proved : Rows.FnVandermondeSaid := over
#print axioms proved
end Go.Proofs.Ytnobbojjhehdfaa.fnVandermonde
