/- The law FnCipher returns true for every input, and its arguments read afterwards as before. Conditions: none. -/
import Derived.Test.YtnobbojjhehdfaaRows
import Derived.WalkKit
import Derived.ProofKit
import Derived.OpenShut
import Derived.Test.YtnobbojjhehdfaaDraw4
import Derived.Test.YtnobbojjhehdfaaCry
import Derived.Test.YtnobbojjhehdfaaPlainF
import Derived.Test.YtnobbojjhehdfaaPlainG
import Derived.Test.YtnobbojjhehdfaaLawkit
import Derived.Test.YtnobbojjhehdfaaSame
import Derived.ShutString
import Derived.ChangeOld
import Derived.Below
namespace Go.Proofs.Ytnobbojjhehdfaa.fnCipher
open Go.ChangeShapes Go.WideShapes Go.ChangeAt Go.RowKit
open Go.ChangeMaps (open_string shut_string)
set_option linter.unusedVariables false

theorem own : ownKnob Try.prog.godebug = none := by kernel_rfl
theorem laidOut : laidOutB Try.prog = true := by kernel_rfl

/-- WHAT THE WALK IS TOLD OF A SLICE OF INTEGERS THAT CAME IN: it is nil; or it leads to a row of 'cap' cells, the numbers 'zs' (the first 'len' are its elements, the rest its spare room), each fitting its kind. -/
def IsRow (k : IntKind) (w : World) (a : Option Addr) (len cap : Nat) (zs : List Int) : Prop :=
  (a = none ∧ len = 0 ∧ cap = 0 ∧ zs = []) ∨
  ∃ x, a = some x ∧ len ≤ cap ∧ cap ≤ maxLen ∧ zs.length = cap ∧ (∀ i, i < zs.length → w.cell? (x.add i) = some (.int k (zs.getD i 0))) ∧ ∀ n ∈ zs, (Lit.int k n).wf = true

/-! ### STEP 1: THE WALK: the Go text returns true, AND WRITES NOTHING THAT WAS THERE: 'Below w.heap.size w w'' (Derived/Below.lean: '.refl', '.alloc', '.drew', '.setCell' at a new block, '.trans'). Open each 'IsRow' by 'rcases' AHEAD of 'go_enter'; part every test ahead of the walk. -/
set_option maxRecDepth 100000 in
set_option maxHeartbeats 4000000 in
theorem walk (a0 : Option Addr) (len0 cap0 : Nat) (z0 : List Int) (w : World) (w0 : IsRow .u8 w a0 len0 cap0 z0) :
    Calls Try.prog 6 #[.slice a0 len0 cap0] w fun e w' => e = .returned (.bool true) ∧ Below w.heap.size w w' := by
  obtain ⟨xs, hr, hv, hlc, hcm⟩ := rd_of_row w0
  have HZ := Lib.hid (show ∀ x ∈ xs, 0 ≤ x ∧ x ≤ 255 from fun x hx => bounds_u8 (hv x hx))
  clear w0 hv hcm
  by_cases hn : len0 ≤ 1048576
  rotate_left
  · have HBIG := Lib.hid (show decide ((1048576 : Int) < len0) = true by simp; omega)
    go_enter Try.func6, Try.ntmps6
    go_wp2_with fail
    refine (laws_big _ _ _ _).mono ?_
    rintro e w' ⟨rfl, rfl⟩
    rw [HBIG.out]
    go_wp2_with fail
    go_ret
    exact ⟨rfl, Below.refl _ _⟩
  have HBIG := Lib.hid (show decide ((1048576 : Int) < len0) = false by simp; omega)
  have hB : Below w.heap.size w w := Below.refl _ _
  go_enter Try.func6, Try.ntmps6
  go_wp2_with fail
  refine (laws_big _ _ _ _).mono ?_
  rintro e w' ⟨rfl, rfl⟩
  rw [HBIG.out]
  go_wp2_with fail
  refine (spec_DrawEncrypt _ _ _ xs _ hr HZ.out hn).mono ?_
  rintro e W1 ⟨k, Ab, nb, cb, zs, rfl, k0, k1, hnb, hall, ob, hb⟩
  replace hr := hr.below hb (by omega)
  have hs1 := hb.size
  replace hB := hB.trans (hb.mono (by omega))
  clear hb
  have HL := Lib.hid (show zs.length = nb by have q := ob.len; simpa using q)
  have HBY := Lib.hid hall
  clear hall
  have LE := Lib.hid (Nc.encB_len k zs)
  have LD := Lib.hid (Nc.decB_len k zs)
  have BE := Lib.hid (Nc.encB_byte k zs)
  have BD := Lib.hid (Nc.decB_byte k zs)
  have E1 := Lib.hid (Nc.cipher_dec k HBY.out)
  have E2 := Lib.hid (Nc.cipher_enc k HBY.out)
  go_wp2_with fail
  refine (impl_Encrypt k _ _ _ zs _ (ob.rd.more (by omega)) HBY.out (by omega)).mono ?_
  rintro e W2 ⟨Ae, ne, ce, rfl, oe, hb⟩
  replace hr := hr.below hb (by omega)
  replace ob := ob.below hb (by omega)
  have hs2 := hb.size
  replace hB := hB.trans (hb.mono (by omega))
  clear hb
  have lne : ne ≤ 1000 := by have q := oe.len; simp only [List.length_map] at q; rw [LE.out, HL.out] at q; omega
  go_wp2_with fail
  refine (impl_Decrypt k _ _ _ _ _ (oe.rd.more (by omega)) BE.out (by omega)).mono ?_
  rintro e W3 ⟨Af, nf, cf, rfl, of, hb⟩
  replace hr := hr.below hb (by omega)
  replace ob := ob.below hb (by omega)
  replace oe := oe.below hb (by omega)
  have hs3 := hb.size
  replace hB := hB.trans (hb.mono (by omega))
  clear hb
  have lnf : nf ≤ 1000 := by have q := of.len; simp only [List.length_map] at q; rw [Nc.decB_len, LE.out, HL.out] at q; omega
  rw [E1.out] at of
  go_wp2_with fail
  refine (laws_sameBytes _ _ _ _ _ _ zs zs _ (of.rd.more (by omega)) (ob.rd.more (by omega)) (by omega) (by omega)).mono ?_
  rintro e W4 ⟨rfl, hb⟩
  replace hr := hr.below hb (by omega)
  replace ob := ob.below hb (by omega)
  replace oe := oe.below hb (by omega)
  replace of := of.below hb (by omega)
  have hs4 := hb.size
  replace hB := hB.trans (hb.mono (by omega))
  clear hb
  rw [show decide (zs = zs) = true from decide_eq_true rfl]
  go_wp2_with fail
  refine (impl_Decrypt k _ _ _ zs _ (ob.rd.more (by omega)) HBY.out (by omega)).mono ?_
  rintro e W5 ⟨Ag, ng, cg, rfl, og, hb⟩
  replace hr := hr.below hb (by omega)
  replace ob := ob.below hb (by omega)
  replace oe := oe.below hb (by omega)
  replace of := of.below hb (by omega)
  have hs5 := hb.size
  replace hB := hB.trans (hb.mono (by omega))
  clear hb
  have lng : ng ≤ 1000 := by have q := og.len; simp only [List.length_map] at q; rw [LD.out, HL.out] at q; omega
  go_wp2_with fail
  refine (impl_Encrypt k _ _ _ _ _ (og.rd.more (by omega)) BD.out (by omega)).mono ?_
  rintro e W6 ⟨Ah, nh, ch, rfl, oh, hb⟩
  replace hr := hr.below hb (by omega)
  replace ob := ob.below hb (by omega)
  replace oe := oe.below hb (by omega)
  replace of := of.below hb (by omega)
  replace og := og.below hb (by omega)
  have hs6 := hb.size
  replace hB := hB.trans (hb.mono (by omega))
  clear hb
  have lnh : nh ≤ 1000 := by have q := oh.len; simp only [List.length_map] at q; rw [Nc.encB_len, LD.out, HL.out] at q; omega
  rw [E2.out] at oh
  go_wp2_with fail
  refine (laws_sameBytes _ _ _ _ _ _ zs zs _ (oh.rd.more (by omega)) (ob.rd.more (by omega)) (by omega) (by omega)).mono ?_
  rintro e W7 ⟨rfl, hb⟩
  replace hr := hr.below hb (by omega)
  replace ob := ob.below hb (by omega)
  replace oe := oe.below hb (by omega)
  replace of := of.below hb (by omega)
  replace og := og.below hb (by omega)
  replace oh := oh.below hb (by omega)
  have hs7 := hb.size
  replace hB := hB.trans (hb.mono (by omega))
  clear hb
  rw [show decide (zs = zs) = true from decide_eq_true rfl]
  go_wp2_with fail
  refine (impl_Encrypt k _ _ _ zs _ (ob.rd.more (by omega)) HBY.out (by omega)).mono ?_
  rintro e W8 ⟨Ai, ni, ci, rfl, oi, hb⟩
  replace hr := hr.below hb (by omega)
  replace ob := ob.below hb (by omega)
  replace oe := oe.below hb (by omega)
  replace of := of.below hb (by omega)
  replace og := og.below hb (by omega)
  replace oh := oh.below hb (by omega)
  have hs8 := hb.size
  replace hB := hB.trans (hb.mono (by omega))
  clear hb
  have lni : ni ≤ 1000 := by have q := oi.len; simp only [List.length_map] at q; rw [LE.out, HL.out] at q; omega
  obtain rfl : nb = ni := by have q := oi.len; simp only [List.length_map] at q; rw [← q, LE.out, HL.out]
  go_wp2_with fail
  go_ret
  exact ⟨rfl, hB⟩

/-! ### THE ROW's STEP: WRITTEN OUT: LEAVE IT -/
set_option maxRecDepth 100000 in
theorem lifted (os : Os) (started : os.Started) (H : Type) (enc : TypeId × Value → H) :
    ReturnsInHanded {} Try.checked os 6 .any (Rows.fnCipherSpec.pre6 enc Try.prog Try.f6 Rows.fnCipherRow.domain false) (Rows.fnCipherSpec.post enc Try.prog Try.f6 false true false false) := by
  refine returnsInHanded_of_change (C := Try.checked) own started (by kernel_rfl) Try.func6
    (ChangeSpec.witness6 (enc := enc) (C := Try.checked) false ⟨#[], #[.slice none 0 0], []⟩ 8 (by kernel_rfl) (by kernel_rfl) (by kernel_rfl) (by kernel_rfl)) ?_
  intro W base args ds gs before hval0 hW hcnd _
  have hval : ∀ (j : Nat) t v, Try.f6.params[j]? = some t → args[j]? = some v → Value.okWide Try.prog W .any base t v := hval0
  have hW' := hW
  obtain ⟨p, q, hA0, hV, rfl, hfz, hnd⟩ := hW
  have hA : DataW.TrodAll enc Try.prog W 0 (fun _ => true) true Try.f6.params.toList args.toList ds p := hA0
  rw [Try.params6] at hA hval
  obtain ⟨v0, vs0, d0, ds0, p0, q0, hargs, rfl, rfl, h0, r0⟩ := trodAll_cons hA
  obtain ⟨rfl, rfl, rfl⟩ := trodAll_nil r0
  obtain rfl : args = #[v0] := by cases args; simp_all
  obtain ⟨rfl, rfl⟩ := trodVars_none hV
  obtain ⟨a0, len0, cap0, rfl⟩ := okWide_slice Try.underlying22 (hval 0 22 v0 rfl rfl)
  have k0 := h0
  have lt0 : ∀ x ∈ p0, x.block < W.heap.size := by obtain ⟨m, hm⟩ := k0; exact DataW.trod_lt m _ _ _ hm
  obtain ⟨z0, w0⟩ : ∃ zs, IsRow .u8 W a0 len0 cap0 zs := by
    obtain ⟨fuel, hf⟩ := h0
    rcases open_ints Try.underlying22 Try.underlying5 (by kernel_rfl) hf with ⟨hcs, _⟩ | ⟨x, l, c, zs, hcs, _, hl, hm, hz, _, hcell, hwz⟩
    · simp [Value.cells] at hcs
      obtain ⟨rfl, rfl, rfl⟩ := hcs
      exact ⟨[], .inl ⟨rfl, rfl, rfl, rfl⟩⟩
    · simp [Value.cells] at hcs
      obtain ⟨rfl, rfl, rfl⟩ := hcs
      exact ⟨zs, .inr ⟨_, rfl, hl, hm, by simpa using hz, hcell, hwz⟩⟩
  clear hA0 hval0
  refine (walk a0 len0 cap0 z0 W w0).mono fun e W' ⟨he, bel⟩ => ?_
  subst he
  exact ⟨_, rfl, _, _, _, [], _, [], hW', trodAll_mk1 (shut_bool Try.underlying4 _), (trodAll_cons_mk (Below.trod laidOut (by kernel_rfl) (of_decide_eq_true (by kernel_rfl)) k0 bel lt0) trodAll_mk0), rfl, bel.frame _, fun h => by cases h⟩

theorem over : Rows.fnCipherRow.holds Try.pinned (OpenSpec.ofChange Rows.fnCipherSpec) :=
  OpenClaim.holds_of_wide 6 Try.f6 rfl rfl rfl rfl rfl rfl rfl ⟨rfl, rfl, rfl, rfl, rfl⟩ rfl rfl rfl rfl rfl (by kernel_rfl) Try.func6 (by kernel_rfl)
    (of_decide_eq_true (by kernel_rfl)) (by unfold Func.isWrapper; first | (rw [if_pos (by decide +kernel)]; kernel_rfl) | (rw [if_neg (by decide +kernel)]; exact ⟨rfl, rfl⟩))
    (fun os started H enc _ => lifted os started H enc)

/-- ████ THE STATEMENT ████ -/
theorem proved : Rows.FnCipherSaid := over
#print axioms proved
end Go.Proofs.Ytnobbojjhehdfaa.fnCipher
