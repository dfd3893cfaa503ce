/- The law FnIntegers returns true for every input, and its argument reads afterwards as before, where the listed package variables start as the program's text lays them; and its tied card. -/
import Derived.Test.YtklgjhhlcpfkoaaDoorRows
import Derived.Test.YtklgjhhlcpfkoaaDoorCards
import Derived.Test.YtklgjhhlcpfkoaaDoorTie
import Derived.Test.YtklgjhhlcpfkoaaDoorLaid
import Derived.Test.YtklgjhhlcpfkoaaDoorParse
import Derived.Test.YtklgjhhlcpfkoaaDoorDrawP
import Derived.Test.YtklgjhhlcpfkoaaDoorLawkit
import Derived.Test.YtklgjhhlcpfkoaaDoorCeilMod
import Derived.WalkKit
import Derived.ProofKit
import Derived.OpenShut
import Derived.ShutString
import Derived.SizedLaws
import Derived.ChangeSame
import Derived.ChangeVars
import Derived.ChangeMaps5
import Derived.JoinedOf
import Derived.JoinedAt
import Derived.RowKit
import Derived.RowKit3
import Derived.RowKitTokens
import Derived.LaidLaws
import Derived.ChangeOld
import Derived.Below
import Derived.SevenTiedAt
namespace Go.Proofs.YtklgjhhlcpfkoaaDoor.fnIntegers
open Go.ChangeShapes Go.WideShapes Go.ChangeAt Go.RowKit
open Go.ChangeMaps (open_string shut_string)
set_option linter.unusedVariables false

theorem own : ownKnob Tryd.prog.godebug = none := by kernel_rfl
theorem laidOut : laidOutB Tryd.prog = true := by kernel_rfl
abbrev IsRow (k : IntKind) (w : World) (a : Option Addr) (len cap : Nat) (zs : List Int) : Prop :=
  (a = none ∧ len = 0 ∧ cap = 0 ∧ zs = []) ∨ ∃ x, a = some x ∧ len ≤ cap ∧ cap ≤ maxLen ∧ zs.length = cap ∧ (∀ i, i < zs.length → w.cell? (x.add i) = some (.int k (zs.getD i 0))) ∧ ∀ n ∈ zs, (Lit.int k n).wf = true

set_option maxHeartbeats 8000000 in
theorem walk (a0 : Option Addr) (len0 cap0 : Nat) (z0 : List Int) (w : World) (w0 : IsRow .u8 w a0 len0 cap0 z0) (ht : Tab w) (he : Errs w) :
    Calls Tryd.prog 4 #[.slice a0 len0 cap0] w fun e w' => e = .returned (.bool true) ∧ Below w.heap.size w w' := by
  obtain ⟨xs, hr, hv, hlc, hcm⟩ := rd_of_row w0
  have HZ := Lib.hid (show ∀ x ∈ xs, 0 ≤ x ∧ x ≤ 255 from fun x hx => bounds_u8 (hv x hx))
  clear w0 hv hcm
  by_cases hn : len0 ≤ 1048576
  rotate_left
  · have HBIG := Lib.hid (show decide ((1048576 : Int) < len0) = true by simp; omega)
    go_enter Tryd.func4, Tryd.ntmps4
    go_wp2_with fail
    refine (laws_big _ _ _ _).mono ?_
    rintro e w' ⟨rfl, rfl⟩
    rw [HBIG.out]
    go_wp2_with fail
    go_ret
    exact ⟨rfl, Below.refl _ _⟩
  have HBIG := Lib.hid (show decide ((1048576 : Int) < len0) = false by simp; omega)
  go_enter Tryd.func4, Tryd.ntmps4
  go_wp2_with fail
  refine (laws_big _ _ _ _).mono ?_
  rintro e w' ⟨rfl, rfl⟩
  rw [HBIG.out]
  go_wp2_with fail
  refine (spec_DrawParseInt _ _ _ xs _ hr HZ.out hn).mono ?_
  rintro e W1 ⟨s, rfl, hsz, hB⟩
  replace hr := hr.below hB (by omega)
  have hs1 := hB.size
  obtain ⟨x, b, P1⟩ : ∃ x b, parseT s.data.toList = .tuple #[.int .i64 x, .bool b] := ⟨_, _, rfl⟩
  obtain ⟨HX, x0, x1⟩ : Hid (b = true → bs (Lib.itoa x) = s) ∧ 0 ≤ x ∧ x ≤ 1000000000000 := by
    have q := Nc.parse_bd s.data.toList
    injection P1 with P1
    simp at P1
    obtain ⟨rfl, rfl⟩ := P1
    exact ⟨Lib.hid fun hb => by rw [Nc.parse_back hb]; exact (bs_of s).symm, q.1, q.2⟩
  have C1 := fun w => impl_ParseInt s (by omega) w
  rw [P1] at C1
  clear P1
  go_wp2_with fail
  refine (C1 _ (ht.below hB (Nat.le_refl _)) (he.below hB (Nat.le_refl _))).mono ?_
  clear C1
  rintro e W2 ⟨rfl, hb⟩
  replace hr := hr.below hb (by omega)
  replace hB := hB.trans (hb.mono (by omega))
  have hs2 := hb.size
  clear hb
  go_wp2_with fail
  refine (spec_DrawFormatInt _ _ _ xs _ (hr.more (by omega)) HZ.out hn).mono ?_
  rintro e W3 ⟨m, rfl, m0, m1, hb⟩
  replace hr := hr.below hb (by omega)
  replace hB := hB.trans (hb.mono (by omega))
  have hs3 := hb.size
  clear hb
  go_wp2_with fail
  refine (impl_FormatInt m m0 m1 _ (ht.below hB (Nat.le_refl _))).mono ?_
  rintro e W4 ⟨rfl, hb⟩
  replace hr := hr.below hb (by omega)
  replace hB := hB.trans (hb.mono (by omega))
  have hs4 := hb.size
  clear hb
  obtain ⟨k, f, P2⟩ : ∃ k f, parseT (bs (Lib.itoa m)).data.toList = .tuple #[.int .i64 k, .bool f] := ⟨_, _, rfl⟩
  have HF := Lib.hid (show (k, f) = if 0 ≤ m ∧ m ≤ 1000000000000 then (m, true) else (0, false) by
    rw [← Nc.parse_itoa m]
    rw [bs_list] at P2
    injection P2 with P2
    simp at P2
    obtain ⟨rfl, rfl⟩ := P2
    rfl)
  have C1 := fun w => impl_ParseInt (bs (Lib.itoa m)) (by have := itoa_size m m0 m1; omega) w
  rw [P2] at C1
  clear P2
  generalize bs (Lib.itoa m) = s2 at C1 ⊢
  go_wp2_with fail
  refine (C1 _ (ht.below hB (Nat.le_refl _)) (he.below hB (Nat.le_refl _))).mono ?_
  clear C1
  rintro e W5 ⟨rfl, hb⟩
  replace hr := hr.below hb (by omega)
  replace hB := hB.trans (hb.mono (by omega))
  have hs5 := hb.size
  clear hb
  go_wp2_with fail
  refine (spec_DrawCeilDiv _ _ _ xs _ (hr.more (by omega)) HZ.out hn).mono ?_
  rintro e W6 ⟨a, d, rfl, a0', a1', d0', d1', hb⟩
  replace hB := hB.trans (hb.mono (by omega))
  have hs6 := hb.size
  clear hb hr
  have K1 := Lib.hid (fun h => @Nc.cd_none a d h)
  have K2 := Lib.hid (fun h h' => @Nc.md_facts a d h h')
  have K3 := Lib.hid (fun h => @Nc.cd_out a d h)
  have K4 := Lib.hid (fun h h' h2 h3 => @Nc.cd_in a d h h' h2 h3)
  have C1 := fun w => impl_CeilDiv a d w
  have C2 := fun w => impl_Mod a d w
  generalize Nc.ceilDiv a d = q at K1 K2 K3 K4 C1 C2
  generalize Nc.modI a d = r at K1 K2 K3 K4 C1 C2
  go_wp2_with fail
  refine (C1 _).mono ?_
  rintro e w' ⟨rfl, rfl⟩
  clear C1
  go_wp2_with fail
  refine (C2 _).mono ?_
  rintro e w' ⟨rfl, rfl⟩
  clear C2
  have HM : (0 ≤ m ∧ m ≤ 1000000000000 ∧ (k != m) = false ∧ f = true) ∨ (m < 0 ∧ f = false) ∨ (1000000000000 < m ∧ f = false) := by
    have hf := HF.out
    by_cases h : 0 ≤ m ∧ m ≤ 1000000000000
    · rw [if_pos h] at hf
      injection hf with hf1 hf2
      exact .inl ⟨h.1, h.2, by rw [hf1]; simp, hf2⟩
    · rw [if_neg h] at hf
      injection hf with hf1 hf2
      by_cases h0 : m < 0
      · exact .inr (.inl ⟨h0, hf2⟩)
      · exact .inr (.inr ⟨by omega, hf2⟩)
  have HC : (d < 1 ∧ q = 0 ∧ r = 0) ∨ (1000000000000 < d ∧ q = 0 ∧ r = 0) ∨ (1 ≤ d ∧ d ≤ 1000000000000 ∧ 0 ≤ r ∧ r < d ∧ ((a.tmod d - r).tmod d != 0) = false ∧ -1000000000000 < a.tmod d ∧ a.tmod d < 1000000000000 ∧ ((a < 0 ∧ q = 0) ∨ (1000000000000 < a ∧ q = 0) ∨ (0 ≤ a ∧ a ≤ 1000000000000 ∧ a ≤ q * d ∧ q * d - a < d))) := by
    by_cases h0 : d < 1
    · exact .inl ⟨h0, K1.out (.inl h0)⟩
    · by_cases h1 : 1000000000000 < d
      · exact .inr (.inl ⟨h1, K1.out (.inr h1)⟩)
      · obtain ⟨f1, f2, f3, f4, f5⟩ := K2.out (by omega) (by omega)
        refine .inr (.inr ⟨by omega, by omega, f1, f2, by rw [f3]; rfl, f4, f5, ?_⟩)
        by_cases g0 : a < 0
        · exact .inl ⟨g0, K3.out (.inl g0)⟩
        · by_cases g1 : 1000000000000 < a
          · exact .inr (.inl ⟨g1, K3.out (.inr g1)⟩)
          · exact .inr (.inr ⟨by omega, by omega, K4.out (by omega) (by omega) (by omega) (by omega)⟩)
  clear K1 K2 K3 K4 HF
  have e1 : (s.toList == s.toList) = true := by simp
  rcases HC with ⟨h0, rfl, rfl⟩ | ⟨h0, rfl, rfl⟩ | ⟨h0, h1, f1, f2, f3, f4, f5, ⟨g0, rfl⟩ | ⟨g0, rfl⟩ | ⟨g0, g1, g2, g3⟩⟩
  all_goals try rw [Int.tmod_eq_emod_of_nonneg (show 0 ≤ a by omega)] at f3 f4 f5
  all_goals
    rcases HM with ⟨hm0, hm1, hm2, rfl⟩ | ⟨hm0, rfl⟩ | ⟨hm0, rfl⟩
    all_goals
      cases b
      · go_wp2_with fail
        go_ret
        exact ⟨rfl, hB⟩
      · go_wp2_with fail
        refine (impl_FormatInt x (by omega) (by omega) _ (ht.below hB (Nat.le_refl _))).mono ?_
        rintro e W7 ⟨rfl, hb⟩
        replace hB := hB.trans (hb.mono (by omega))
        rw [HX.out (by simp)]
        go_wp2_with fail
        go_ret
        exact ⟨rfl, hB⟩

set_option maxRecDepth 100000 in
theorem lifted (os : Os) (started : os.Started) (H : Type) (enc : TypeId × Value → H) :
    ReturnsInHanded {} Tryd.checked os 4 .any (fun w args => (Rows.fnIntegersSpec.pre enc Tryd.prog Tryd.f4 Rows.fnIntegersRow.domain false w args ∧ laidMet Tryd.prog laid5 w) ∧ sizedMet enc Tryd.prog Tryd.f4 (OpenSpec.ofChange Rows.fnIntegersSpec) false w args)
      (Rows.fnIntegersSpec.post enc Tryd.prog Tryd.f4 false true false false) := by
  refine returnsInHanded_of_change_and (C := Tryd.checked) (X := fun w _ => laidMet Tryd.prog laid5 w) (fun _ _ _ hh h => h.of_heap hh) own started (by kernel_rfl) Tryd.func4
    (ChangeSpec.witness_at (enc := enc) (C := Tryd.checked) (os := os) (X := fun w _ => laidMet Tryd.prog laid5 w) false (laidWorld os) #[.slice none 0 0] 8 rfl (by kernel_rfl) (by kernel_rfl) (by kernel_rfl) (by kernel_rfl) (by kernel_rfl) (met5 os _)) ?_
  intro W base args ds gs before hval0 hW _ hsz0 hL _
  have hval : ∀ (j : Nat) t v, Tryd.f4.params[j]? = some t → args[j]? = some v → Value.okWide Tryd.prog W .any base t v := hval0
  have hW' := hW
  obtain ⟨p, q, hA0, hV, rfl, _, _⟩ := hW
  have hA : DataW.TrodAll enc Tryd.prog W 0 (fun _ => true) true Tryd.f4.params.toList args.toList ds p := hA0
  rw [Tryd.params4] at hA hval
  obtain ⟨v0, vs0, d0, ds0, p0, q0, hargs, rfl, rfl, h0, r0⟩ := trodAll_cons hA
  obtain ⟨rfl, rfl, rfl⟩ := trodAll_nil r0
  obtain rfl : args = #[v0] := by cases args; simp_all
  obtain ⟨rfl, rfl⟩ := trodVars_none hV
  obtain ⟨a0, len0, cap0, rfl⟩ := okWide_slice Tryd.underlying25 (hval 0 25 v0 rfl rfl)
  have k0 := h0
  have lt0 : ∀ x ∈ p0, x.block < W.heap.size := by obtain ⟨m, hm⟩ := k0; exact DataW.trod_lt m _ _ _ hm
  obtain ⟨z0, w0⟩ : ∃ zs, IsRow .u8 W a0 len0 cap0 zs := by
    obtain ⟨fuel, hf⟩ := h0
    rcases open_ints Tryd.underlying25 Tryd.underlying5 (by kernel_rfl) hf with ⟨hcs, _⟩ | ⟨x, l, c, zs, hcs, _, hl, hm, hz, _, hcell, hwz⟩
    · simp [Value.cells] at hcs
      obtain ⟨rfl, rfl, rfl⟩ := hcs
      exact ⟨[], .inl ⟨rfl, rfl, rfl, rfl⟩⟩
    · simp [Value.cells] at hcs
      obtain ⟨rfl, rfl, rfl⟩ := hcs
      exact ⟨zs, .inr ⟨_, rfl, hl, hm, by simpa using hz, hcell, hwz⟩⟩
  clear hA0 hval0
  simp only [List.append_nil] at hW'
  refine (walk a0 len0 cap0 z0 W w0 (tab_of_laid hL.tail.tail) (errs_of_laid hL.tail.tail.tail)).mono fun e W' ⟨he, hg⟩ => ?_
  subst he
  exact ⟨_, rfl, _, _, _, [], _, [], hW', trodAll_cons_mk (shut_bool Tryd.underlying4 _) trodAll_mk0, (trodAll_cons_mk (Below.trod laidOut (by kernel_rfl) (of_decide_eq_true (by kernel_rfl)) k0 hg lt0) trodAll_mk0), rfl, hg.frame _, fun h => by cases h⟩

theorem over : Rows.FnIntegersSaid :=
  OpenClaim.holds_of_wide 4 Tryd.f4 rfl rfl rfl rfl rfl rfl rfl ⟨rfl, rfl, rfl, rfl, rfl⟩ rfl rfl rfl rfl rfl (by kernel_rfl) Tryd.func4 (by kernel_rfl)
    (of_decide_eq_true (by kernel_rfl)) (by unfold Func.isWrapper; first | (rw [if_pos (by decide +kernel)]; kernel_rfl) | (rw [if_neg (by decide +kernel)]; exact ⟨rfl, rfl⟩))
    (fun os started H enc _ => lifted os started H enc)

/-- THE TIED CARD. -/
theorem proved : Rows.FnIntegersCardSaid :=
  Claim7.holds_tied_plain_at .later [] [.data, .data, .data, .sentinel, .sentinel] true (true, "661b810cf8c1827d9b5ce3efbaeab38b670464957b40152824e16ec142989f4c") true
    over (fun _ h => by cases h) (by kernel_rfl) (fun _ h => by cases h) fnIntegers_row_tie rfl ⟨rfl, rfl⟩ (by kernel_rfl) rfl
    (fun f fn hf hfn => by
      obtain rfl : f = 4 := Option.some.inj ((show Tryd.prog.funcNamed "loop.example/g00513/laws.FnIntegers" = some 4 by kernel_rfl).symm.trans hf) |>.symm
      obtain rfl : fn = Tryd.f4 := (Option.some.inj (Tryd.func4.symm.trans hfn)).symm
      exact ⟨by kernel_rfl, fun j t ht => by
        rw [Tryd.params4] at ht
        have h3 : t = 25 := by
          rcases j with _ | j
          · simpa using ht.symm
          · simp at ht
        subst h3
        exact (show Tryd.prog.wantsStandIn 25 = false by kernel_rfl)⟩)
    (by kernel_rfl)
#print axioms proved
end Go.Proofs.YtklgjhhlcpfkoaaDoor.fnIntegers
