/- The law FnByteStrings returns true for every input, and its arguments read afterwards as before. Conditions: none. -/
import Derived.Test.YtnobbojjhehdfaaRows
import Derived.WalkKit
import Derived.ProofKit
import Derived.OpenShut
import Derived.Test.YtnobbojjhehdfaaDraw4
import Derived.Test.YtnobbojjhehdfaaEnc3
import Derived.Test.YtnobbojjhehdfaaPlainF
import Derived.Test.YtnobbojjhehdfaaAtI
import Derived.Test.YtnobbojjhehdfaaSame
import Derived.Test.YtnobbojjhehdfaaLawkit
import Derived.ShutString
import Derived.ChangeOld
import Derived.Below
namespace Go.Proofs.Ytnobbojjhehdfaa.fnByteStrings
open Go.ChangeShapes Go.WideShapes Go.ChangeAt Go.RowKit
open Go.ChangeMaps (open_string shut_string)
set_option linter.unusedVariables false

theorem own : ownKnob Try.prog.godebug = none := by kernel_rfl
theorem laidOut : laidOutB Try.prog = true := by kernel_rfl

/-- WHAT THE WALK IS TOLD OF A SLICE OF INTEGERS THAT CAME IN: it is nil; or it leads to a row of 'cap' cells, the numbers 'zs' (the first 'len' are its elements, the rest its spare room), each fitting its kind. -/
def IsRow (k : IntKind) (w : World) (a : Option Addr) (len cap : Nat) (zs : List Int) : Prop :=
  (a = none ∧ len = 0 ∧ cap = 0 ∧ zs = []) ∨
  ∃ x, a = some x ∧ len ≤ cap ∧ cap ≤ maxLen ∧ zs.length = cap ∧ (∀ i, i < zs.length → w.cell? (x.add i) = some (.int k (zs.getD i 0))) ∧ ∀ n ∈ zs, (Lit.int k n).wf = true

/-! ### STEP 1: THE WALK: the Go text returns true, AND WRITES NOTHING THAT WAS THERE: 'Below w.heap.size w w'' (Derived/Below.lean: '.refl', '.alloc', '.drew', '.setCell' at a new block, '.trans'). Open each 'IsRow' by 'rcases' AHEAD of 'go_enter'; part every test ahead of the walk. -/
set_option maxRecDepth 100000 in
set_option maxHeartbeats 4000000 in
theorem walk (a0 : Option Addr) (len0 cap0 : Nat) (z0 : List Int) (w : World) (w0 : IsRow .u8 w a0 len0 cap0 z0) :
    Calls Try.prog 8 #[.slice a0 len0 cap0] w fun e w' => e = .returned (.bool true) ∧ Below w.heap.size w w' := by
  obtain ⟨i0, hi0, hz0, hz1, hz2⟩ := info_parts Try.info_int
  obtain ⟨xs, hr, hv, hlc, hcm⟩ := rd_of_row w0
  have HZ := Lib.hid (show ∀ x ∈ xs, 0 ≤ x ∧ x ≤ 255 from fun x hx => bounds_u8 (hv x hx))
  clear w0 hv hcm
  by_cases hn : len0 ≤ 1048576
  rotate_left
  · have HBIG := Lib.hid (show decide ((1048576 : Int) < len0) = true by simp; omega)
    go_enter Try.func8, Try.ntmps8
    go_wp2_with fail
    refine (laws_big _ _ _ _).mono ?_
    rintro e w' ⟨rfl, rfl⟩
    rw [HBIG.out]
    go_wp2_with fail
    go_ret
    exact ⟨rfl, Below.refl _ _⟩
  have HBIG := Lib.hid (show decide ((1048576 : Int) < len0) = false by simp; omega)
  have hB : Below w.heap.size w w := Below.refl _ _
  go_enter Try.func8, Try.ntmps8
  go_wp2_with fail
  refine (laws_big _ _ _ _).mono ?_
  rintro e w' ⟨rfl, rfl⟩
  rw [HBIG.out]
  go_wp2_with fail
  refine (spec_DrawAppendBytes _ _ _ xs _ hr HZ.out hn).mono ?_
  rintro e W1 ⟨Aa, na, ca, za, Ab, nb, cb, zb, rfl, hna, hnb, halla, hallb, oa, ob, hb⟩
  replace hr := hr.below hb (by omega)
  have hs1 := hb.size
  replace hB := hB.trans (hb.mono (by omega))
  clear hb
  have HLA := Lib.hid (show za.length = na by have q := oa.len; simpa using q)
  have HLB := Lib.hid (show zb.length = nb by have q := ob.len; simpa using q)
  obtain ⟨X, hX⟩ : ∃ X, X = Nc.encU za zb.length ++ zb := ⟨_, rfl⟩
  have HXL := Lib.hid (show X.length ≤ 100 by rw [hX, List.length_append]; have t := Nc.encU_len za (zb.length : Int); have t2 := HLA.out; have t3 := HLB.out; omega)
  have HXB := Lib.hid (show ∀ x ∈ X, 0 ≤ x ∧ x ≤ 255 by rw [hX]; exact Nc.bytes_append (Nc.encU_byte halla) hallb)
  have E1 := Lib.hid (show Nc.readB X na nb = (zb, (X.length : Int), true) by rw [hX, ← HLA.out, ← HLB.out]; exact Nc.bytes_yes za zb (by rw [HLB.out]; omega))
  have E2 := Lib.hid (show Nc.readB X na (nb - 1) = ([], 0, false) by rw [hX, ← HLA.out, ← HLB.out]; exact Nc.bytes_short za zb (by rw [HLB.out]; omega) (by omega))
  have HX := Lib.hid hX.symm
  clear hX halla hallb
  go_wp2_with fail
  refine (impl_AppendBytes _ _ _ _ _ _ za zb _ (oa.rd.more (by omega)) (ob.rd.more (by omega)) (by omega) (by omega)).mono ?_
  rintro e W2 ⟨Ax, nx, cx, rfl, ox, hb⟩
  rw [HX.out] at ox
  replace hr := hr.below hb (by omega)
  replace oa := oa.below hb (by omega)
  replace ob := ob.below hb (by omega)
  have hs2 := hb.size
  replace hB := hB.trans (hb.mono (by omega))
  clear hb
  obtain rfl : X.length = nx := by have q := ox.len; simpa using q
  have lx := HXL.out
  go_wp2_with fail
  refine (impl_ReadBytes _ _ _ _ _ X _ (ox.rd.more (by omega)) HXB.out (by omega) ox.cap ox.capmax (by omega)).mono ?_
  rintro e W3 ⟨Ay, ny, cy, rfl, oy, hb⟩
  rw [E1.out] at oy ⊢
  replace hr := hr.below hb (by omega)
  replace oa := oa.below hb (by omega)
  replace ob := ob.below hb (by omega)
  replace ox := ox.below hb (by omega)
  have hs3 := hb.size
  replace hB := hB.trans (hb.mono (by omega))
  clear hb
  go_wp2_with fail
  refine (impl_ReadBytes _ _ _ _ _ X _ (ox.rd.more (by omega)) HXB.out (by omega) ox.cap ox.capmax (by omega)).mono ?_
  rintro e W4 ⟨Az, nz, cz, rfl, oz, hb⟩
  rw [E2.out] at oz ⊢
  clear oz
  replace hr := hr.below hb (by omega)
  replace oa := oa.below hb (by omega)
  replace ob := ob.below hb (by omega)
  replace ox := ox.below hb (by omega)
  replace oy := oy.below hb (by omega)
  have hs4 := hb.size
  replace hB := hB.trans (hb.mono (by omega))
  clear hb
  have lny : ny ≤ 100 := by have q := oy.len; simp only [List.length_map, HLB.out] at q; omega
  go_wp2_with fail
  refine (laws_sameBytes _ _ _ _ _ _ zb zb _ (oy.rd.more (by omega)) (ob.rd.more (by omega)) (by omega) (by omega)).mono ?_
  rintro e W5 ⟨rfl, hb⟩
  replace hr := hr.below hb (by omega)
  replace oa := oa.below hb (by omega)
  replace ob := ob.below hb (by omega)
  replace ox := ox.below hb (by omega)
  replace oy := oy.below hb (by omega)
  have hs5 := hb.size
  replace hB := hB.trans (hb.mono (by omega))
  clear hb
  rw [show decide (zb = zb) = true from decide_eq_true rfl]
  have hxx : (((X.length : Nat) : Int) != ((X.length : Nat) : Int)) = false := by simp
  clear oa
  clear ob
  clear oy
  clear ox
  obtain ⟨t0, t1⟩ := Nc.atV_bd HZ.out 0
  obtain ⟨t, ht⟩ : ∃ t, t = Nc.atV xs 0 := ⟨_, rfl⟩
  rw [← ht] at t0 t1
  have HT := Lib.hid ht.symm
  clear ht
  go_wp2_with fail
  go_loopw [12, 13] (fun v i wr => ∃ (k : Nat) (A1 : Option Addr) (c1 : Nat) (zs : List Int), k ≤ 5 ∧ i = .int .i64 k ∧ v = .slice A1 k c1 ∧ Own wr W5.heap.size wr.heap.size 3 A1 k c1 (zs.map (.int .i64)) ∧ Nc.allIn 0 16581375 zs ∧ Below W5.heap.size W5 wr) (fun _ i _ => 6 - (intOf i).toNat)
  case atStart => exact ⟨0, _, _, [], by omega, rfl, rfl, Own.of (World.ownsRow_lit W5 #[] 0 (Nat.le_refl _) (by decide) rfl) (Nat.le_refl _), Nc.allIn_nil _ _, (Below.refl _ _).alloc (Nat.le_refl _) _⟩
  case round =>
    obtain ⟨k, A1, c1, zs, hk, rfl, rfl, hown, hall, hbr⟩ := hrel
    have hszr := hbr.size
    have hr2 : Rd wr wr.heap.size a0 len0 (xs.map (.int .u8)) := (hr.below hbr (by omega)).more (by omega)
    go_wp2_with fail
    refine (laws_at _ _ _ xs 0 _ hr2 HZ.out hn (by omega)).mono ?_
    rintro e w' ⟨rfl, rfl⟩
    rw [HT.out]
    by_cases hlt : (k : Int) < t % 6
    · obtain ⟨p0, p1⟩ := Nc.atV_bd HZ.out (k + 1)
      obtain ⟨q0, q1⟩ := Nc.atV_bd HZ.out (k + 2)
      obtain ⟨r0, r1⟩ := Nc.atV_bd HZ.out (k + 3)
      go_wp2_with fail
      refine (laws_atI _ _ _ xs (k + 1) _ _ (by omega) hr2 HZ.out hn (by omega)).mono ?_
      rintro e w' ⟨rfl, rfl⟩
      generalize Nc.atV xs (k + 1) = p at p0 p1 ⊢
      go_wp2_with fail
      refine (laws_atI _ _ _ xs (k + 2) _ _ (by omega) hr2 HZ.out hn (by omega)).mono ?_
      rintro e w' ⟨rfl, rfl⟩
      generalize Nc.atV xs (k + 2) = q at q0 q1 ⊢
      obtain ⟨pq0, pq1⟩ := mul_bd (a := 255) (b := 255) ⟨p0, p1⟩ ⟨q0, q1⟩
      go_wp2_with fail
      refine (laws_atI _ _ _ xs (k + 3) _ _ (by omega) hr2 HZ.out hn (by omega)).mono ?_
      rintro e w' ⟨rfl, rfl⟩
      generalize Nc.atV xs (k + 3) = r at r0 r1 ⊢
      obtain ⟨pr0, pr1⟩ := mul_bd (a := 65025) (b := 255) ⟨pq0, by omega⟩ ⟨r0, r1⟩
      go_wp2_with (first | (at_builtin; refine wpList_app1 _ rfl _ _ _ rfl W5.heap.size 3 i0 _ 8 Try.underlying30 hi0 hz0 hz1 hz2 rfl A1 k c1 _ rfl hown.1 (.int .i64 (p * q * r)) rfl _ rfl (by unfold maxLen; omega) (by omega) hszr ?_; intro A3 c3 w3 hown3 hb3) | fail)
      go_roundw
      case rel => exact ⟨k + 1, A3, c3, zs ++ [p * q * r], by omega, by go_num, rfl, by rw [List.map_append]; exact Own.of hown3 (Nat.le_refl _), Nc.allIn_snoc hall pr0 (by omega), hbr.trans hb3⟩
      case measure => simp [intOf]; omega
    · have hb := hbr
      have ol := hown
      clear hown hbr hr2
      have HLZ := Lib.hid (show zs.length = k by have q := ol.len; simpa using q)
      have HIN := Lib.hid (show ∀ x ∈ zs, Nc.inB x 0 1000000000000 = true from fun x hx => by have := hall x hx; exact Nc.inB_of (by omega) (by omega))
      replace hr := hr.below hb (by omega)
      have hs6 := hb.size
      replace hB := hB.trans (hb.mono (by omega))
      clear hb
      obtain ⟨Y, hY⟩ : ∃ Y, Y = Nc.encL [] zs := ⟨_, rfl⟩
      have HYL := Lib.hid (show Y.length ≤ 100 by rw [hY]; have t := Nc.encL_len [] zs; rw [HLZ.out] at t; simp only [List.length_nil] at t; omega)
      have HYB := Lib.hid (show ∀ x ∈ Y, 0 ≤ x ∧ x ≤ 255 by rw [hY]; exact Nc.encL_byte zs (fun x hx => by simp at hx))
      have E3 := Lib.hid (show Nc.decI Y 0 k = (zs, (Y.length : Int), true) by rw [hY, ← HLZ.out]; exact Nc.ints_yes zs HIN.out (by rw [HLZ.out]; omega))
      have E4 := Lib.hid (show Nc.decI Y 0 (k + 1) = ([], 0, false) by rw [hY, ← HLZ.out]; exact Nc.ints_more zs HIN.out (by rw [HLZ.out]; omega))
      have HY := Lib.hid hY.symm
      clear hY
      go_wp2_with fail
      refine (impl_EncodeInts _ _ _ zs _ (ol.rd.more (by omega)) (by omega)).mono ?_
      rintro e W7 ⟨Ae, ne, ce, rfl, oe, hb⟩
      rw [HY.out] at oe
      replace hr := hr.below hb (by omega)
      replace ol := ol.below hb (by omega)
      have hs7 := hb.size
      replace hB := hB.trans (hb.mono (by omega))
      clear hb
      obtain rfl : Y.length = ne := by have q := oe.len; simpa using q
      have ly := HYL.out
      go_wp2_with fail
      refine (impl_DecodeInts _ _ _ _ _ Y _ (oe.rd.more (by omega)) HYB.out (by omega)).mono ?_
      rintro e W8 ⟨Am, nm, cm, rfl, om, hb⟩
      rw [E3.out] at om ⊢
      replace hr := hr.below hb (by omega)
      replace ol := ol.below hb (by omega)
      replace oe := oe.below hb (by omega)
      have hs8 := hb.size
      replace hB := hB.trans (hb.mono (by omega))
      clear hb
      go_wp2_with fail
      refine (impl_DecodeInts _ _ _ _ _ Y _ (oe.rd.more (by omega)) HYB.out (by omega)).mono ?_
      rintro e W9 ⟨Ao, no, co, rfl, oo, hb⟩
      rw [E4.out] at oo ⊢
      clear oo
      replace hr := hr.below hb (by omega)
      replace ol := ol.below hb (by omega)
      replace oe := oe.below hb (by omega)
      replace om := om.below hb (by omega)
      have hs9 := hb.size
      replace hB := hB.trans (hb.mono (by omega))
      clear hb
      have lnm : nm ≤ 100 := by have q := om.len; simp only [List.length_map, HLZ.out] at q; omega
      go_wp2_with fail
      refine (laws_sameInts _ _ _ _ _ _ zs zs _ (om.rd.more (by omega)) (ol.rd.more (by omega)) (by omega) (by omega)).mono ?_
      rintro e W10 ⟨rfl, hb⟩
      replace hr := hr.below hb (by omega)
      replace ol := ol.below hb (by omega)
      replace oe := oe.below hb (by omega)
      replace om := om.below hb (by omega)
      have hs10 := hb.size
      replace hB := hB.trans (hb.mono (by omega))
      clear hb
      rw [show decide (zs = zs) = true from decide_eq_true rfl]
      have hyy : (((Y.length : Nat) : Int) == ((Y.length : Nat) : Int)) = true := by simp
      go_wp2_with fail
      go_ret
      exact ⟨rfl, hB⟩

/-! ### THE ROW's STEP: WRITTEN OUT: LEAVE IT -/
set_option maxRecDepth 100000 in
theorem lifted (os : Os) (started : os.Started) (H : Type) (enc : TypeId × Value → H) :
    ReturnsInHanded {} Try.checked os 8 .any (Rows.fnByteStringsSpec.pre6 enc Try.prog Try.f8 Rows.fnByteStringsRow.domain false) (Rows.fnByteStringsSpec.post enc Try.prog Try.f8 false true false false) := by
  refine returnsInHanded_of_change (C := Try.checked) own started (by kernel_rfl) Try.func8
    (ChangeSpec.witness6 (enc := enc) (C := Try.checked) false ⟨#[], #[.slice none 0 0], []⟩ 8 (by kernel_rfl) (by kernel_rfl) (by kernel_rfl) (by kernel_rfl)) ?_
  intro W base args ds gs before hval0 hW hcnd _
  have hval : ∀ (j : Nat) t v, Try.f8.params[j]? = some t → args[j]? = some v → Value.okWide Try.prog W .any base t v := hval0
  have hW' := hW
  obtain ⟨p, q, hA0, hV, rfl, hfz, hnd⟩ := hW
  have hA : DataW.TrodAll enc Try.prog W 0 (fun _ => true) true Try.f8.params.toList args.toList ds p := hA0
  rw [Try.params8] at hA hval
  obtain ⟨v0, vs0, d0, ds0, p0, q0, hargs, rfl, rfl, h0, r0⟩ := trodAll_cons hA
  obtain ⟨rfl, rfl, rfl⟩ := trodAll_nil r0
  obtain rfl : args = #[v0] := by cases args; simp_all
  obtain ⟨rfl, rfl⟩ := trodVars_none hV
  obtain ⟨a0, len0, cap0, rfl⟩ := okWide_slice Try.underlying22 (hval 0 22 v0 rfl rfl)
  have k0 := h0
  have lt0 : ∀ x ∈ p0, x.block < W.heap.size := by obtain ⟨m, hm⟩ := k0; exact DataW.trod_lt m _ _ _ hm
  obtain ⟨z0, w0⟩ : ∃ zs, IsRow .u8 W a0 len0 cap0 zs := by
    obtain ⟨fuel, hf⟩ := h0
    rcases open_ints Try.underlying22 Try.underlying5 (by kernel_rfl) hf with ⟨hcs, _⟩ | ⟨x, l, c, zs, hcs, _, hl, hm, hz, _, hcell, hwz⟩
    · simp [Value.cells] at hcs
      obtain ⟨rfl, rfl, rfl⟩ := hcs
      exact ⟨[], .inl ⟨rfl, rfl, rfl, rfl⟩⟩
    · simp [Value.cells] at hcs
      obtain ⟨rfl, rfl, rfl⟩ := hcs
      exact ⟨zs, .inr ⟨_, rfl, hl, hm, by simpa using hz, hcell, hwz⟩⟩
  clear hA0 hval0
  refine (walk a0 len0 cap0 z0 W w0).mono fun e W' ⟨he, bel⟩ => ?_
  subst he
  exact ⟨_, rfl, _, _, _, [], _, [], hW', trodAll_mk1 (shut_bool Try.underlying4 _), (trodAll_cons_mk (Below.trod laidOut (by kernel_rfl) (of_decide_eq_true (by kernel_rfl)) k0 bel lt0) trodAll_mk0), rfl, bel.frame _, fun h => by cases h⟩

theorem over : Rows.fnByteStringsRow.holds Try.pinned (OpenSpec.ofChange Rows.fnByteStringsSpec) :=
  OpenClaim.holds_of_wide 8 Try.f8 rfl rfl rfl rfl rfl rfl rfl ⟨rfl, rfl, rfl, rfl, rfl⟩ rfl rfl rfl rfl rfl (by kernel_rfl) Try.func8 (by kernel_rfl)
    (of_decide_eq_true (by kernel_rfl)) (by unfold Func.isWrapper; first | (rw [if_pos (by decide +kernel)]; kernel_rfl) | (rw [if_neg (by decide +kernel)]; exact ⟨rfl, rfl⟩))
    (fun os started H enc _ => lifted os started H enc)

/-- ████ THE STATEMENT ████ -/
theorem proved : Rows.FnByteStringsSaid := over
#print axioms proved
end Go.Proofs.Ytnobbojjhehdfaa.fnByteStrings
