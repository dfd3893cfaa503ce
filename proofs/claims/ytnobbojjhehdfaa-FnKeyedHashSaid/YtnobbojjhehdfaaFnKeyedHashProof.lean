/- The law FnKeyedHash returns true for every input, and its arguments read afterwards as before. Conditions: none. -/
import Derived.Test.YtnobbojjhehdfaaRows
import Derived.WalkKit
import Derived.ProofKit
import Derived.OpenShut
import Derived.Test.YtnobbojjhehdfaaDraw4
import Derived.Test.YtnobbojjhehdfaaPlainG
import Derived.Test.YtnobbojjhehdfaaGuard
import Derived.Test.YtnobbojjhehdfaaLawkit
import Derived.Deep.RegionWith
import Derived.ShutString
import Derived.ChangeOld
import Derived.Below
namespace Go.Proofs.Ytnobbojjhehdfaa.fnKeyedHash
open Go.ChangeShapes Go.WideShapes Go.ChangeAt Go.RowKit
open Go.ChangeMaps (open_string shut_string)
set_option linter.unusedVariables false

theorem own : ownKnob Try.prog.godebug = none := by kernel_rfl
theorem laidOut : laidOutB Try.prog = true := by kernel_rfl

/-- WHAT THE WALK IS TOLD OF A SLICE OF INTEGERS THAT CAME IN: it is nil; or it leads to a row of 'cap' cells, the numbers 'zs' (the first 'len' are its elements, the rest its spare room), each fitting its kind. -/
def IsRow (k : IntKind) (w : World) (a : Option Addr) (len cap : Nat) (zs : List Int) : Prop :=
  (a = none ∧ len = 0 ∧ cap = 0 ∧ zs = []) ∨
  ∃ x, a = some x ∧ len ≤ cap ∧ cap ≤ maxLen ∧ zs.length = cap ∧ (∀ i, i < zs.length → w.cell? (x.add i) = some (.int k (zs.getD i 0))) ∧ ∀ n ∈ zs, (Lit.int k n).wf = true

/-! ### STEP 1: THE WALK: the Go text returns true, AND WRITES NOTHING THAT WAS THERE: 'Below w.heap.size w w'' (Derived/Below.lean: '.refl', '.alloc', '.drew', '.setCell' at a new block, '.trans'). Open each 'IsRow' by 'rcases' AHEAD of 'go_enter'; part every test ahead of the walk. -/
set_option maxRecDepth 100000 in
set_option maxHeartbeats 4000000 in
theorem walk (a0 : Option Addr) (len0 cap0 : Nat) (z0 : List Int) (w : World) (w0 : IsRow .u8 w a0 len0 cap0 z0) :
    Calls Try.prog 7 #[.slice a0 len0 cap0] w fun e w' => e = .returned (.bool true) ∧ Below w.heap.size w w' := by
  obtain ⟨i0, hi0, hz0, hz1, hz2⟩ := info_parts Try.info_int
  obtain ⟨xs, hr, hv, hlc, hcm⟩ := rd_of_row w0
  have HZ := Lib.hid (show ∀ x ∈ xs, 0 ≤ x ∧ x ≤ 255 from fun x hx => bounds_u8 (hv x hx))
  clear w0 hv hcm
  by_cases hn : len0 ≤ 1048576
  rotate_left
  · have HBIG := Lib.hid (show decide ((1048576 : Int) < len0) = true by simp; omega)
    go_enter Try.func7, Try.ntmps7
    go_wp2_with fail
    refine (laws_big _ _ _ _).mono ?_
    rintro e w' ⟨rfl, rfl⟩
    rw [HBIG.out]
    go_wp2_with fail
    go_ret
    exact ⟨rfl, Below.refl _ _⟩
  have HBIG := Lib.hid (show decide ((1048576 : Int) < len0) = false by simp; omega)
  have hB : Below w.heap.size w w := Below.refl _ _
  go_enter Try.func7, Try.ntmps7
  go_wp2_with fail
  refine (laws_big _ _ _ _).mono ?_
  rintro e w' ⟨rfl, rfl⟩
  rw [HBIG.out]
  go_wp2_with fail
  refine (spec_DrawKeyedHash _ _ _ xs _ hr HZ.out hn).mono ?_
  rintro e W1 ⟨k, Al, nl, cl, zs, rfl, k0, k1, hnl, hall, ol, hb⟩
  replace hr := hr.below hb (by omega)
  have hs1 := hb.size
  replace hB := hB.trans (hb.mono (by omega))
  clear hb
  have HL := Lib.hid (show zs.length = nl by have q := ol.len; simpa using q)
  have HALL := Lib.hid hall
  clear hall
  go_wp2_with fail
  refine (impl_KeyedHash k _ _ _ zs _ (ol.rd.more (by omega)) (by omega) ol.cap ol.capmax).mono ?_
  rintro e W2 ⟨rfl, hb⟩
  replace hr := hr.below hb (by omega)
  replace ol := ol.below hb (by omega)
  have hs2 := hb.size
  replace hB := hB.trans (hb.mono (by omega))
  clear hb
  obtain ⟨h0, h1⟩ := Nc.keyed_bd k zs
  obtain ⟨h, hh⟩ : ∃ h, h = Nc.keyed k zs := ⟨_, rfl⟩
  rw [← hh] at h0 h1 ⊢
  have HH := Lib.hid hh
  clear hh
  have hd1 : decide (h < 0) = false := by simp; omega
  have hd2 : decide (2147483647 ≤ h) = false := by simp; omega
  have hl := World.ownsRow_lit (base := W2.heap.size) (e := 3) (size := 1) W2 #[.int .i64 k] 1 (Nat.le_refl _) (by decide) rfl
  have hr1 := (ol.rd.more (by omega : W1.heap.size ≤ W2.heap.size)).below ((Below.refl W2.heap.size W2).alloc (Nat.le_refl _) (.cells #[.int .i64 k] 3)) (Nat.le_refl _)
  go_wp2_with (first
    | (at_builtin; refine wpList_unguard rfl ?_; refine wpList_appAny _ rfl (.tmp 29) (.tmp 30) _ rfl W2.heap.size 3 i0 _ 8 Try.underlying30 hi0 hz0 hz1 hz2 rfl _ 1 1 _ rfl hl W2.heap.size Al nl cl _ rfl hr1 (one_ints' _ _) (by unfold maxLen; omega) (by omega) (by simp) ?_; intro A3 c3 w3 hown3 hb3; have hs3 : W2.heap.size ≤ w3.heap.size := by (have := hb3.size; simp at this; omega))
    | (at_builtin; refine wpList_unguard rfl ?_; refine wpList_app1 _ rfl (.tmp 31) (.tmp 33) _ rfl W2.heap.size 3 i0 _ 8 Try.underlying30 hi0 hz0 hz1 hz2 rfl A3 (1 + nl) c3 _ rfl hown3 (.int .i64 k) rfl _ rfl (by unfold maxLen; omega) (by omega) hs3 ?_; intro A4 c4 w4 hown4 hb4)
    | fail)
  have ho := Own.of hown4 (Nat.le_refl _)
  have hk : ((#[Value.int .i64 k].toList ++ zs.map (.int .i64)) ++ [Value.int .i64 k]) = ([k] ++ zs ++ [k]).map (.int .i64) := by simp
  rw [hk] at ho
  have HK := Lib.hid (show Nc.hashL ([k] ++ zs ++ [k]) = h from HH.out.symm)
  refine (impl_Hash _ _ _ ([k] ++ zs ++ [k]) _ ho.rd (by omega)).mono ?_
  rintro e w' ⟨rfl, rfl⟩
  rw [HK.out]
  have hb : Below W2.heap.size W2 w4 := (((Below.refl _ _).alloc (Nat.le_refl _) _).trans hb3).trans hb4
  clear hb3 hb4 hown3 hown4 ho hk hl hr1 hs3
  replace hr := hr.below hb (by omega)
  replace ol := ol.below hb (by omega)
  have hs3 := hb.size
  replace hB := hB.trans (hb.mono (by omega))
  clear hb
  by_cases hp : 0 < nl
  · go_wp2_with (first | (at_builtin; refine wpList_appAny _ rfl (.tmp 41) (.tmp 42) _ rfl w4.heap.size 3 i0 _ 8 Try.underlying30 hi0 hz0 hz1 hz2 rfl _ 0 0 [] rfl (World.ownsRow_lit w4 #[] 0 (Nat.le_refl _) (by decide) rfl) w4.heap.size Al nl cl _ rfl ((ol.rd.more (by omega : W1.heap.size ≤ w4.heap.size)).below ((Below.refl _ _).alloc (Nat.le_refl _) _) (Nat.le_refl _)) (one_ints' _ _) (by unfold maxLen; omega) (by omega) (by simp) ?_; intro A5 c5 w5 hown5 hb5; simp only [Nat.zero_add, List.nil_append] at hown5; replace hb5 := ((Below.refl _ _).alloc (Nat.le_refl _) _).trans hb5) | fail)
    have hb := hb5
    clear hb5
    have om := Own.of hown5 (Nat.le_refl _)
    clear hown5
    replace hr := hr.below hb (by omega)
    replace ol := ol.below hb (by omega)
    have hs4 := hb.size
    replace hB := hB.trans (hb.mono (by omega))
    clear hb
    go_wp2_with fail
    refine (laws_at _ _ _ xs 0 _ (hr.more (by omega)) HZ.out hn (by omega)).mono ?_
    rintro e w' ⟨rfl, rfl⟩
    obtain ⟨t0, t1⟩ := Nc.atV_bd HZ.out 0
    generalize Nc.atV xs 0 = t at t0 t1 ⊢
    have m0 := Int.emod_nonneg t (show (nl : Int) ≠ 0 by omega)
    have m1 := Int.emod_lt_of_pos t (show (0 : Int) < nl by omega)
    go_wp2_with fail
    generalize hj : t % (nl : Int) = jj at m0 m1 ⊢
    clear hj
    obtain ⟨j, rfl⟩ := Int.eq_ofNat_of_zero_le m0
    obtain ⟨g, rfl, hglo, hghi⟩ := om.addr hp
    obtain ⟨x, hx⟩ : ∃ x, zs[j]? = some x := ⟨_, List.getElem?_eq_getElem (by rw [HL.out]; omega)⟩
    obtain ⟨x0, x1⟩ := HALL.out x (List.mem_of_getElem? hx)
    obtain ⟨u0, u1⟩ := Nc.atV_bd HZ.out 1
    have HD := Lib.hid (Nc.keyed_differs k hx u0 u1)
    have HAT := Lib.hid (show ∀ q, Rd (w5.drewN q) (w5.drewN q).heap.size a0 len0 (xs.map (.int .u8)) from fun q => (show Rd w5 w5.heap.size a0 len0 _ from hr.more (by omega)))
    have hcell := om.1.cellAt j (by omega)
    rw [List.getElem?_map, hx] at hcell
    have hcell : w5.cell? ⟨g, j, none⟩ = some (.int .i64 x) := hcell
    have hfz := om.1.frozenAt j
    have HST := Lib.hid (om.1.stored j (.int .i64 (Nc.modI (x + 1 + Nc.atV xs 1) 2147483647)))
    have OM := Lib.hid om
    have HBB := Lib.hid hB
    have OL := Lib.hid ol
    have HR := Lib.hid hr
    clear hx om hB ol hr
    generalize hu : Nc.atV xs 1 = u at u0 u1 HD HST
    have HU := Lib.hid hu
    clear hu
    have v1 : IntKind.i64.wrap (x + 1) = x + 1 := IntWalk.i64_in _ (by omega)
    have v2 : IntKind.i64.wrap (x + 1 + u) = x + 1 + u := IntWalk.i64_in _ (by omega)
    have RDM := Lib.hid (show Rd (w5.setCell ⟨g, j, none⟩ (.int .i64 (Nc.modI (x + 1 + u) 2147483647))) (w5.setCell ⟨g, j, none⟩ (.int .i64 (Nc.modI (x + 1 + u) 2147483647))).heap.size (some ⟨g, 0, none⟩) nl ((zs.set j (Nc.modI (x + 1 + u) 2147483647)).map (.int .i64)) from by have := (Own.of HST.out.1 (Nat.le_refl _)).rd; rw [← List.map_set] at this; exact this)
    have HNE := Lib.hid (show (Nc.keyed k (zs.set j (Nc.modI (x + 1 + u) 2147483647)) == h) = false by rw [HH.out]; simpa using HD.out)
    go_region_with ((first | (go_at_call 18; refine (laws_at _ _ _ xs 1 _ (by exact HAT.out 0) HZ.out hn (by omega)).mono ?_; rintro e w' ⟨rfl, rfl⟩; rw [HU.out]) | (go_at_call 44; refine (spec_Mod _ _ _).mono ?_; rintro e w' ⟨rfl, rfl⟩)))
    all_goals
      go_wp2_with fail
      refine (impl_KeyedHash k _ _ _ (zs.set j (Nc.modI (x + 1 + u) 2147483647)) _ (by exact RDM.out) (by omega) OM.out.cap OM.out.capmax).mono ?_
      rintro e W6 ⟨rfl, hb⟩
      have hb6 : Below (w5.setCell ⟨g, j, none⟩ (.int .i64 (Nc.modI (x + 1 + u) 2147483647))).heap.size (w5.setCell ⟨g, j, none⟩ (.int .i64 (Nc.modI (x + 1 + u) 2147483647))) W6 := ⟨hb.os, hb.tape, hb.output, hb.size, hb.block⟩
      have hz6 : (w5.setCell ⟨g, j, none⟩ (.int .i64 (Nc.modI (x + 1 + u) 2147483647))).heap.size = w5.heap.size := by simp [World.setCell]
      have hbw : Below w.heap.size w5 W6 := ((Below.refl w.heap.size w5).setCell (p := ⟨g, j, none⟩) (by simp only; omega) (.int .i64 (Nc.modI (x + 1 + u) 2147483647))).trans (hb6.mono (by omega))
      have hs6 : w5.heap.size ≤ W6.heap.size := by have := hb6.size; omega
      have hr := HR.out.below hbw (Nat.le_refl _)
      have hB := HBB.out.trans hbw
      have hne := HNE.out
      generalize Nc.keyed k (zs.set j (Nc.modI (x + 1 + u) 2147483647)) = h2 at hne ⊢
      clear hb hb6 hz6 hbw
      go_wp2_with fail
      refine (spec_DrawDeriveFromString _ _ _ xs _ (hr.more (by omega)) HZ.out hn).mono ?_
      rintro e W7 ⟨key, s, rfl, key0, key1, hss, hb⟩
      replace hr := hr.below hb (by omega)
      have hs7 := hb.size
      replace hB := hB.trans (hb.mono (by omega))
      clear hb
      go_wp2_with fail
      refine (impl_DeriveFromString key s _ (by omega)).mono ?_
      rintro e W8 ⟨rfl, hb⟩
      replace hr := hr.below hb (by omega)
      have hs8 := hb.size
      replace hB := hB.trans (hb.mono (by omega))
      clear hb
      go_wp2_with fail
      refine (impl_IsValidKey _ _).mono ?_
      rintro e w' ⟨rfl, rfl⟩
      rw [Nc.derive_ok key s]
      go_wp2_with fail
      go_ret
      exact ⟨rfl, hB⟩
  · go_wp2_with fail
    refine (spec_DrawDeriveFromString _ _ _ xs _ (hr.more (by omega)) HZ.out hn).mono ?_
    rintro e W4 ⟨key, s, rfl, key0, key1, hss, hb⟩
    replace hr := hr.below hb (by omega)
    replace ol := ol.below hb (by omega)
    have hs4 := hb.size
    replace hB := hB.trans (hb.mono (by omega))
    clear hb
    go_wp2_with fail
    refine (impl_DeriveFromString key s _ (by omega)).mono ?_
    rintro e W5 ⟨rfl, hb⟩
    replace hr := hr.below hb (by omega)
    replace ol := ol.below hb (by omega)
    have hs5 := hb.size
    replace hB := hB.trans (hb.mono (by omega))
    clear hb
    go_wp2_with fail
    refine (impl_IsValidKey _ _).mono ?_
    rintro e w' ⟨rfl, rfl⟩
    rw [Nc.derive_ok key s]
    go_wp2_with fail
    go_ret
    exact ⟨rfl, hB⟩

/-! ### THE ROW's STEP: WRITTEN OUT: LEAVE IT -/
set_option maxRecDepth 100000 in
theorem lifted (os : Os) (started : os.Started) (H : Type) (enc : TypeId × Value → H) :
    ReturnsInHanded {} Try.checked os 7 .any (Rows.fnKeyedHashSpec.pre6 enc Try.prog Try.f7 Rows.fnKeyedHashRow.domain false) (Rows.fnKeyedHashSpec.post enc Try.prog Try.f7 false true false false) := by
  refine returnsInHanded_of_change (C := Try.checked) own started (by kernel_rfl) Try.func7
    (ChangeSpec.witness6 (enc := enc) (C := Try.checked) false ⟨#[], #[.slice none 0 0], []⟩ 8 (by kernel_rfl) (by kernel_rfl) (by kernel_rfl) (by kernel_rfl)) ?_
  intro W base args ds gs before hval0 hW hcnd _
  have hval : ∀ (j : Nat) t v, Try.f7.params[j]? = some t → args[j]? = some v → Value.okWide Try.prog W .any base t v := hval0
  have hW' := hW
  obtain ⟨p, q, hA0, hV, rfl, hfz, hnd⟩ := hW
  have hA : DataW.TrodAll enc Try.prog W 0 (fun _ => true) true Try.f7.params.toList args.toList ds p := hA0
  rw [Try.params7] at hA hval
  obtain ⟨v0, vs0, d0, ds0, p0, q0, hargs, rfl, rfl, h0, r0⟩ := trodAll_cons hA
  obtain ⟨rfl, rfl, rfl⟩ := trodAll_nil r0
  obtain rfl : args = #[v0] := by cases args; simp_all
  obtain ⟨rfl, rfl⟩ := trodVars_none hV
  obtain ⟨a0, len0, cap0, rfl⟩ := okWide_slice Try.underlying22 (hval 0 22 v0 rfl rfl)
  have k0 := h0
  have lt0 : ∀ x ∈ p0, x.block < W.heap.size := by obtain ⟨m, hm⟩ := k0; exact DataW.trod_lt m _ _ _ hm
  obtain ⟨z0, w0⟩ : ∃ zs, IsRow .u8 W a0 len0 cap0 zs := by
    obtain ⟨fuel, hf⟩ := h0
    rcases open_ints Try.underlying22 Try.underlying5 (by kernel_rfl) hf with ⟨hcs, _⟩ | ⟨x, l, c, zs, hcs, _, hl, hm, hz, _, hcell, hwz⟩
    · simp [Value.cells] at hcs
      obtain ⟨rfl, rfl, rfl⟩ := hcs
      exact ⟨[], .inl ⟨rfl, rfl, rfl, rfl⟩⟩
    · simp [Value.cells] at hcs
      obtain ⟨rfl, rfl, rfl⟩ := hcs
      exact ⟨zs, .inr ⟨_, rfl, hl, hm, by simpa using hz, hcell, hwz⟩⟩
  clear hA0 hval0
  refine (walk a0 len0 cap0 z0 W w0).mono fun e W' ⟨he, bel⟩ => ?_
  subst he
  exact ⟨_, rfl, _, _, _, [], _, [], hW', trodAll_mk1 (shut_bool Try.underlying4 _), (trodAll_cons_mk (Below.trod laidOut (by kernel_rfl) (of_decide_eq_true (by kernel_rfl)) k0 bel lt0) trodAll_mk0), rfl, bel.frame _, fun h => by cases h⟩

theorem over : Rows.fnKeyedHashRow.holds Try.pinned (OpenSpec.ofChange Rows.fnKeyedHashSpec) :=
  OpenClaim.holds_of_wide 7 Try.f7 rfl rfl rfl rfl rfl rfl rfl ⟨rfl, rfl, rfl, rfl, rfl⟩ rfl rfl rfl rfl rfl (by kernel_rfl) Try.func7 (by kernel_rfl)
    (of_decide_eq_true (by kernel_rfl)) (by unfold Func.isWrapper; first | (rw [if_pos (by decide +kernel)]; kernel_rfl) | (rw [if_neg (by decide +kernel)]; exact ⟨rfl, rfl⟩))
    (fun os started H enc _ => lifted os started H enc)

/-- ████ THE STATEMENT ████ -/
theorem proved : Rows.FnKeyedHashSaid := over
#print axioms proved
end Go.Proofs.Ytnobbojjhehdfaa.fnKeyedHash
