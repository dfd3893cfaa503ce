/- The law FnVarints returns true for every input, and its arguments read afterwards as before. Conditions: none. -/
import Derived.Test.YtnobbojjhehdfaaRows
import Derived.WalkKit
import Derived.ProofKit
import Derived.OpenShut
import Derived.Test.YtnobbojjhehdfaaDraw4
import Derived.Test.YtnobbojjhehdfaaEnc3
import Derived.Test.YtnobbojjhehdfaaPlainF
import Derived.Test.YtnobbojjhehdfaaAtI
import Derived.Test.YtnobbojjhehdfaaSame
import Derived.Test.YtnobbojjhehdfaaGuard
import Derived.Test.YtnobbojjhehdfaaLawkit
import Derived.Deep.RegionHeld3
import Derived.ShutString
import Derived.ChangeOld
import Derived.Below
namespace Go.Proofs.Ytnobbojjhehdfaa.fnVarints
open Go.ChangeShapes Go.WideShapes Go.ChangeAt Go.RowKit
open Go.ChangeMaps (open_string shut_string)
set_option linter.unusedVariables false

theorem own : ownKnob Try.prog.godebug = none := by kernel_rfl
theorem laidOut : laidOutB Try.prog = true := by kernel_rfl

/-- WHAT THE WALK IS TOLD OF A SLICE OF INTEGERS THAT CAME IN: it is nil; or it leads to a row of 'cap' cells, the numbers 'zs' (the first 'len' are its elements, the rest its spare room), each fitting its kind. -/
def IsRow (k : IntKind) (w : World) (a : Option Addr) (len cap : Nat) (zs : List Int) : Prop :=
  (a = none ∧ len = 0 ∧ cap = 0 ∧ zs = []) ∨
  ∃ x, a = some x ∧ len ≤ cap ∧ cap ≤ maxLen ∧ zs.length = cap ∧ (∀ i, i < zs.length → w.cell? (x.add i) = some (.int k (zs.getD i 0))) ∧ ∀ n ∈ zs, (Lit.int k n).wf = true

/-! ### STEP 1: THE WALK: the Go text returns true, AND WRITES NOTHING THAT WAS THERE: 'Below w.heap.size w w'' (Derived/Below.lean: '.refl', '.alloc', '.drew', '.setCell' at a new block, '.trans'). Open each 'IsRow' by 'rcases' AHEAD of 'go_enter'; part every test ahead of the walk. -/
set_option maxRecDepth 100000 in
set_option maxHeartbeats 4000000 in
theorem walk (a0 : Option Addr) (len0 cap0 : Nat) (z0 : List Int) (w : World) (w0 : IsRow .u8 w a0 len0 cap0 z0) :
    Calls Try.prog 9 #[.slice a0 len0 cap0] w fun e w' => e = .returned (.bool true) ∧ Below w.heap.size w w' := by
  obtain ⟨xs, hr, hv, hlc, hcm⟩ := rd_of_row w0
  have HZ := Lib.hid (show ∀ x ∈ xs, 0 ≤ x ∧ x ≤ 255 from fun x hx => bounds_u8 (hv x hx))
  clear w0 hv hcm
  by_cases hn : len0 ≤ 1048576
  rotate_left
  · have HBIG := Lib.hid (show decide ((1048576 : Int) < len0) = true by simp; omega)
    go_enter Try.func9, Try.ntmps9
    go_wp2_with fail
    refine (laws_big _ _ _ _).mono ?_
    rintro e w' ⟨rfl, rfl⟩
    rw [HBIG.out]
    go_wp2_with fail
    go_ret
    exact ⟨rfl, Below.refl _ _⟩
  have HBIG := Lib.hid (show decide ((1048576 : Int) < len0) = false by simp; omega)
  have hB : Below w.heap.size w w := Below.refl _ _
  go_enter Try.func9, Try.ntmps9
  go_wp2_with fail
  refine (laws_big _ _ _ _).mono ?_
  rintro e w' ⟨rfl, rfl⟩
  rw [HBIG.out]
  go_wp2_with fail
  refine (spec_DrawAppendUvarint _ _ _ xs _ hr HZ.out hn).mono ?_
  rintro e W1 ⟨N, Ab, nb, cb, zb, rfl, n0, n1, hnb, hallb, ob, hb⟩
  replace hr := hr.below hb (by omega)
  have hs1 := hb.size
  replace hB := hB.trans (hb.mono (by omega))
  clear hb
  have HLB := Lib.hid (show zb.length = nb by have q := ob.len; simpa using q)
  obtain ⟨X, hX⟩ : ∃ X, X = Nc.encU zb N := ⟨_, rfl⟩
  have HXL := Lib.hid (show X.length ≤ 100 by rw [hX]; have t := Nc.encU_len zb N; have t2 := HLB.out; omega)
  have HXB := Lib.hid (show ∀ x ∈ X, 0 ≤ x ∧ x ≤ 255 by rw [hX]; exact Nc.encU_byte hallb)
  have HX := Lib.hid hX.symm
  clear hX hallb
  cases hN : Nc.inB N 0 1000000000000
  · have E1 := Nc.varint_no zb hN
    have hor := Nc.inB_false hN
    obtain rfl : X = zb := by rw [← HX.out]; exact E1.1
    have E2 := Lib.hid (show Nc.readU X (nb : Int) = (0, 0, false) by have := E1.2; rw [HLB.out] at this; exact this)
    clear hN E1
    by_cases hneg : N < 0
    · have hng : ¬ 1000000000000 < N := by omega
      go_wp2_with fail
      refine (impl_AppendUvarint _ _ _ N X _ (ob.rd.more (by omega)) (by omega)).mono ?_
      rintro e W2 ⟨Ax, nx, cx, rfl, ox, hb⟩
      rw [HX.out] at ox
      replace hr := hr.below hb (by omega)
      replace ob := ob.below hb (by omega)
      have hs2 := hb.size
      replace hB := hB.trans (hb.mono (by omega))
      clear hb
      obtain rfl : X.length = nx := by have q := ox.len; simpa using q
      have lx := HXL.out
      go_wp2_with fail
      refine (impl_ReadUvarint_eq E2.out _ _ _ _ (ox.rd.more (by omega)) HXB.out (by omega) (by omega)).mono ?_
      rintro e w' ⟨rfl, rfl⟩
      go_wp2_with fail
      refine (laws_sameBytes _ _ _ _ _ _ X X _ (ox.rd.more (by omega)) (ob.rd.more (by omega)) (by omega) (by omega)).mono ?_
      rintro e W3 ⟨rfl, hb⟩
      replace hr := hr.below hb (by omega)
      replace ob := ob.below hb (by omega)
      replace ox := ox.below hb (by omega)
      have hs3 := hb.size
      replace hB := hB.trans (hb.mono (by omega))
      clear hb
      rw [show decide (X = X) = true from decide_eq_true rfl]
      clear ob
      clear ox
      go_wp2_with fail
      refine (spec_DrawReadUvarint _ _ _ xs _ (hr.more (by omega)) HZ.out hn).mono ?_
      rintro e W4 ⟨off, Ay, ny, cy, zy, rfl, f0, f1, hny, hally, oy, hb⟩
      replace hr := hr.below hb (by omega)
      have hs4 := hb.size
      replace hB := hB.trans (hb.mono (by omega))
      clear hb
      have HLY := Lib.hid (show zy.length = ny by have q := oy.len; simpa using q)
      have HYB := Lib.hid (show ∀ x ∈ zy, 0 ≤ x ∧ x ≤ 255 from hally)
      clear hally
      cases hf : (Nc.readU zy off).2.2
      · have E := Nc.readU_no hf
        have EE := Lib.hid E
        clear E hf
        go_wp2_with fail
        refine (impl_ReadUvarint_eq EE.out _ _ _ _ (oy.rd.more (by omega)) HYB.out (by omega) (by omega)).mono ?_
        rintro e w' ⟨rfl, rfl⟩
        go_wp2_with fail
        refine (spec_ReadUvarint_eq EE.out _ _ _ _ (oy.rd.more (by omega)) HYB.out (by omega) (by omega)).mono ?_
        rintro e w' ⟨rfl, rfl⟩
        go_wp2_with fail
        go_ret
        exact ⟨rfl, hB⟩
      · obtain ⟨k, a, rfl, ea, hka, hal, hm⟩ := Nc.varint_back HYB.out hf
        obtain ⟨m, hm2⟩ : ∃ m, m = (Nc.readU zy (k : Int)).1 := ⟨_, rfl⟩
        have EE := Lib.hid (show Nc.readU zy (k : Int) = (m, (a : Int), true) by rw [hm2, ← ea, ← hf])
        rw [← hm2] at hm
        have HM := Lib.hid hm
        rw [HLY.out] at hal
        clear hf ea hm hm2
        go_wp2_with fail
        refine (impl_ReadUvarint_eq EE.out _ _ _ _ (oy.rd.more (by omega)) HYB.out (by omega) (by omega)).mono ?_
        rintro e w' ⟨rfl, rfl⟩
        have hcap := oy.cap
        obtain ⟨g, rfl, hglo, hghi⟩ := oy.addr (by omega)
        have hcut := oy.rd.cut (a := k) (m := a - k) (c := cy) (by omega) hcap
        rw [if_neg (by omega), ← List.map_drop, ← List.map_take, ← HM.out] at hcut
        have HCUT := Lib.hid hcut
        have HBB := Lib.hid hB
        have hca : ¬ cy = k := by omega
        have i1 : (0 : Int) ≤ k := by omega
        have i2 : (k : Int) ≤ a := by omega
        have i3 : (a : Int) ≤ ny := by omega
        have i4 : (a : Int) ≤ cy := by omega
        have i5 : k ≤ a := by omega
        have i6 : a ≤ cy := by omega
        have i7 : (0 : Int) ≤ a := by omega
        have i8 : (k : Int) ≤ cy := by omega
        have b1 : decide ((0 : Int) ≤ k) = true := by simp
        have b2 : decide (a ≤ ny) = true := by simp; omega
        have b3 : decide (k < a) = true := by simp; omega
        have HEL := Lib.hid (Nc.encU_len [] m)
        clear hcut hB oy hr
        go_wp2_with fail
        have HCB := Lib.hid (show ∀ w2 : World, Below W4.heap.size W4 w2 → Rd w2 w2.heap.size (Option.map (fun x : Addr => x.add k) (some ⟨g, 0, none⟩)) (a - k) ((Nc.encU [] m).map (.int .u8)) from fun w2 hb => (HCUT.out.below hb (by omega)).more hb.size)
        go_region_held3 (fun _ => True) (exact trivial) (first | (go_at_call 54; refine (impl_AppendUvarint _ _ _ m [] _ (by exact Rd.nil) (by omega)).mono ?_; rintro e w2 ⟨A2, n2, c2, rfl, o2, hb2⟩; have l2 : n2 ≤ 100 := (by have q := o2.len; simp only [List.length_map] at q; have t := HEL.out; simp only [List.length_nil] at t; omega); have hbw : Below W4.heap.size W4 w2 := ⟨hb2.os, hb2.tape, hb2.output, Nat.le_trans (by simp) hb2.size, fun k hk => (hb2.block k (by simp; omega)).trans (Below.heap_alloc W4 _ k hk)⟩; have HC2 := Lib.hid (HCB.out w2 hbw); have HW2 := Lib.hid hbw; have HO2 := Lib.hid o2; clear hb2 hbw o2) | (go_at_call 38; refine (laws_sameBytes _ _ _ _ _ _ (Nc.encU [] m) (Nc.encU [] m) _ (by exact HO2.out.rd) (by simpa [Addr.add_lit] using HC2.out) (by omega) (by omega)).mono ?_; rintro e w3 ⟨rfl, hb3⟩; rw [show decide (Nc.encU [] m = Nc.encU [] m) = true from decide_eq_true rfl]))
        have hb4 : Below w2.heap.size w2 w3 := ⟨hb3.os, hb3.tape, hb3.output, hb3.size, hb3.block⟩
        have hs2 := HW2.out.size
        go_wp2_with fail
        go_ret
        exact ⟨rfl, (HBB.out.trans (HW2.out.mono (by omega))).trans (hb4.mono (by omega))⟩
    · have hgt : 1000000000000 < N := by omega
      go_wp2_with fail
      refine (impl_AppendUvarint _ _ _ N X _ (ob.rd.more (by omega)) (by omega)).mono ?_
      rintro e W2 ⟨Ax, nx, cx, rfl, ox, hb⟩
      rw [HX.out] at ox
      replace hr := hr.below hb (by omega)
      replace ob := ob.below hb (by omega)
      have hs2 := hb.size
      replace hB := hB.trans (hb.mono (by omega))
      clear hb
      obtain rfl : X.length = nx := by have q := ox.len; simpa using q
      have lx := HXL.out
      go_wp2_with fail
      refine (impl_ReadUvarint_eq E2.out _ _ _ _ (ox.rd.more (by omega)) HXB.out (by omega) (by omega)).mono ?_
      rintro e w' ⟨rfl, rfl⟩
      go_wp2_with fail
      refine (laws_sameBytes _ _ _ _ _ _ X X _ (ox.rd.more (by omega)) (ob.rd.more (by omega)) (by omega) (by omega)).mono ?_
      rintro e W3 ⟨rfl, hb⟩
      replace hr := hr.below hb (by omega)
      replace ob := ob.below hb (by omega)
      replace ox := ox.below hb (by omega)
      have hs3 := hb.size
      replace hB := hB.trans (hb.mono (by omega))
      clear hb
      rw [show decide (X = X) = true from decide_eq_true rfl]
      clear ob
      clear ox
      go_wp2_with fail
      refine (spec_DrawReadUvarint _ _ _ xs _ (hr.more (by omega)) HZ.out hn).mono ?_
      rintro e W4 ⟨off, Ay, ny, cy, zy, rfl, f0, f1, hny, hally, oy, hb⟩
      replace hr := hr.below hb (by omega)
      have hs4 := hb.size
      replace hB := hB.trans (hb.mono (by omega))
      clear hb
      have HLY := Lib.hid (show zy.length = ny by have q := oy.len; simpa using q)
      have HYB := Lib.hid (show ∀ x ∈ zy, 0 ≤ x ∧ x ≤ 255 from hally)
      clear hally
      cases hf : (Nc.readU zy off).2.2
      · have E := Nc.readU_no hf
        have EE := Lib.hid E
        clear E hf
        go_wp2_with fail
        refine (impl_ReadUvarint_eq EE.out _ _ _ _ (oy.rd.more (by omega)) HYB.out (by omega) (by omega)).mono ?_
        rintro e w' ⟨rfl, rfl⟩
        go_wp2_with fail
        refine (spec_ReadUvarint_eq EE.out _ _ _ _ (oy.rd.more (by omega)) HYB.out (by omega) (by omega)).mono ?_
        rintro e w' ⟨rfl, rfl⟩
        go_wp2_with fail
        go_ret
        exact ⟨rfl, hB⟩
      · obtain ⟨k, a, rfl, ea, hka, hal, hm⟩ := Nc.varint_back HYB.out hf
        obtain ⟨m, hm2⟩ : ∃ m, m = (Nc.readU zy (k : Int)).1 := ⟨_, rfl⟩
        have EE := Lib.hid (show Nc.readU zy (k : Int) = (m, (a : Int), true) by rw [hm2, ← ea, ← hf])
        rw [← hm2] at hm
        have HM := Lib.hid hm
        rw [HLY.out] at hal
        clear hf ea hm hm2
        go_wp2_with fail
        refine (impl_ReadUvarint_eq EE.out _ _ _ _ (oy.rd.more (by omega)) HYB.out (by omega) (by omega)).mono ?_
        rintro e w' ⟨rfl, rfl⟩
        have hcap := oy.cap
        obtain ⟨g, rfl, hglo, hghi⟩ := oy.addr (by omega)
        have hcut := oy.rd.cut (a := k) (m := a - k) (c := cy) (by omega) hcap
        rw [if_neg (by omega), ← List.map_drop, ← List.map_take, ← HM.out] at hcut
        have HCUT := Lib.hid hcut
        have HBB := Lib.hid hB
        have hca : ¬ cy = k := by omega
        have i1 : (0 : Int) ≤ k := by omega
        have i2 : (k : Int) ≤ a := by omega
        have i3 : (a : Int) ≤ ny := by omega
        have i4 : (a : Int) ≤ cy := by omega
        have i5 : k ≤ a := by omega
        have i6 : a ≤ cy := by omega
        have i7 : (0 : Int) ≤ a := by omega
        have i8 : (k : Int) ≤ cy := by omega
        have b1 : decide ((0 : Int) ≤ k) = true := by simp
        have b2 : decide (a ≤ ny) = true := by simp; omega
        have b3 : decide (k < a) = true := by simp; omega
        have HEL := Lib.hid (Nc.encU_len [] m)
        clear hcut hB oy hr
        go_wp2_with fail
        have HCB := Lib.hid (show ∀ w2 : World, Below W4.heap.size W4 w2 → Rd w2 w2.heap.size (Option.map (fun x : Addr => x.add k) (some ⟨g, 0, none⟩)) (a - k) ((Nc.encU [] m).map (.int .u8)) from fun w2 hb => (HCUT.out.below hb (by omega)).more hb.size)
        go_region_held3 (fun _ => True) (exact trivial) (first | (go_at_call 54; refine (impl_AppendUvarint _ _ _ m [] _ (by exact Rd.nil) (by omega)).mono ?_; rintro e w2 ⟨A2, n2, c2, rfl, o2, hb2⟩; have l2 : n2 ≤ 100 := (by have q := o2.len; simp only [List.length_map] at q; have t := HEL.out; simp only [List.length_nil] at t; omega); have hbw : Below W4.heap.size W4 w2 := ⟨hb2.os, hb2.tape, hb2.output, Nat.le_trans (by simp) hb2.size, fun k hk => (hb2.block k (by simp; omega)).trans (Below.heap_alloc W4 _ k hk)⟩; have HC2 := Lib.hid (HCB.out w2 hbw); have HW2 := Lib.hid hbw; have HO2 := Lib.hid o2; clear hb2 hbw o2) | (go_at_call 38; refine (laws_sameBytes _ _ _ _ _ _ (Nc.encU [] m) (Nc.encU [] m) _ (by exact HO2.out.rd) (by simpa [Addr.add_lit] using HC2.out) (by omega) (by omega)).mono ?_; rintro e w3 ⟨rfl, hb3⟩; rw [show decide (Nc.encU [] m = Nc.encU [] m) = true from decide_eq_true rfl]))
        have hb4 : Below w2.heap.size w2 w3 := ⟨hb3.os, hb3.tape, hb3.output, hb3.size, hb3.block⟩
        have hs2 := HW2.out.size
        go_wp2_with fail
        go_ret
        exact ⟨rfl, (HBB.out.trans (HW2.out.mono (by omega))).trans (hb4.mono (by omega))⟩
  · obtain ⟨m0, m1⟩ := Nc.inB_true hN
    have E2 := Lib.hid (show Nc.readU X (nb : Int) = (N, (X.length : Int), true) by rw [← HX.out, ← HLB.out]; exact Nc.varint_yes zb hN)
    clear hN
    go_wp2_with fail
    refine (impl_AppendUvarint _ _ _ N zb _ (ob.rd.more (by omega)) (by omega)).mono ?_
    rintro e W2 ⟨Ax, nx, cx, rfl, ox, hb⟩
    rw [HX.out] at ox
    replace hr := hr.below hb (by omega)
    replace ob := ob.below hb (by omega)
    have hs2 := hb.size
    replace hB := hB.trans (hb.mono (by omega))
    clear hb
    obtain rfl : X.length = nx := by have q := ox.len; simpa using q
    have lx := HXL.out
    go_wp2_with fail
    refine (impl_ReadUvarint_eq E2.out _ _ _ _ (ox.rd.more (by omega)) HXB.out (by omega) (by omega)).mono ?_
    rintro e w' ⟨rfl, rfl⟩
    have hxx : (((X.length : Nat) : Int) != ((X.length : Nat) : Int)) = false := by simp
    have hnn : (N != N) = false := by simp
    clear ob
    clear ox
    go_wp2_with fail
    refine (spec_DrawReadUvarint _ _ _ xs _ (hr.more (by omega)) HZ.out hn).mono ?_
    rintro e W3 ⟨off, Ay, ny, cy, zy, rfl, f0, f1, hny, hally, oy, hb⟩
    replace hr := hr.below hb (by omega)
    have hs3 := hb.size
    replace hB := hB.trans (hb.mono (by omega))
    clear hb
    have HLY := Lib.hid (show zy.length = ny by have q := oy.len; simpa using q)
    have HYB := Lib.hid (show ∀ x ∈ zy, 0 ≤ x ∧ x ≤ 255 from hally)
    clear hally
    cases hf : (Nc.readU zy off).2.2
    · have E := Nc.readU_no hf
      have EE := Lib.hid E
      clear E hf
      go_wp2_with fail
      refine (impl_ReadUvarint_eq EE.out _ _ _ _ (oy.rd.more (by omega)) HYB.out (by omega) (by omega)).mono ?_
      rintro e w' ⟨rfl, rfl⟩
      go_wp2_with fail
      refine (spec_ReadUvarint_eq EE.out _ _ _ _ (oy.rd.more (by omega)) HYB.out (by omega) (by omega)).mono ?_
      rintro e w' ⟨rfl, rfl⟩
      go_wp2_with fail
      go_ret
      exact ⟨rfl, hB⟩
    · obtain ⟨k, a, rfl, ea, hka, hal, hm⟩ := Nc.varint_back HYB.out hf
      obtain ⟨m, hm2⟩ : ∃ m, m = (Nc.readU zy (k : Int)).1 := ⟨_, rfl⟩
      have EE := Lib.hid (show Nc.readU zy (k : Int) = (m, (a : Int), true) by rw [hm2, ← ea, ← hf])
      rw [← hm2] at hm
      have HM := Lib.hid hm
      rw [HLY.out] at hal
      clear hf ea hm hm2
      go_wp2_with fail
      refine (impl_ReadUvarint_eq EE.out _ _ _ _ (oy.rd.more (by omega)) HYB.out (by omega) (by omega)).mono ?_
      rintro e w' ⟨rfl, rfl⟩
      have hcap := oy.cap
      obtain ⟨g, rfl, hglo, hghi⟩ := oy.addr (by omega)
      have hcut := oy.rd.cut (a := k) (m := a - k) (c := cy) (by omega) hcap
      rw [if_neg (by omega), ← List.map_drop, ← List.map_take, ← HM.out] at hcut
      have HCUT := Lib.hid hcut
      have HBB := Lib.hid hB
      have hca : ¬ cy = k := by omega
      have i1 : (0 : Int) ≤ k := by omega
      have i2 : (k : Int) ≤ a := by omega
      have i3 : (a : Int) ≤ ny := by omega
      have i4 : (a : Int) ≤ cy := by omega
      have i5 : k ≤ a := by omega
      have i6 : a ≤ cy := by omega
      have i7 : (0 : Int) ≤ a := by omega
      have i8 : (k : Int) ≤ cy := by omega
      have b1 : decide ((0 : Int) ≤ k) = true := by simp
      have b2 : decide (a ≤ ny) = true := by simp; omega
      have b3 : decide (k < a) = true := by simp; omega
      have HEL := Lib.hid (Nc.encU_len [] m)
      clear hcut hB oy hr
      go_wp2_with fail
      have HCB := Lib.hid (show ∀ w2 : World, Below W3.heap.size W3 w2 → Rd w2 w2.heap.size (Option.map (fun x : Addr => x.add k) (some ⟨g, 0, none⟩)) (a - k) ((Nc.encU [] m).map (.int .u8)) from fun w2 hb => (HCUT.out.below hb (by omega)).more hb.size)
      go_region_held3 (fun _ => True) (exact trivial) (first | (go_at_call 54; refine (impl_AppendUvarint _ _ _ m [] _ (by exact Rd.nil) (by omega)).mono ?_; rintro e w2 ⟨A2, n2, c2, rfl, o2, hb2⟩; have l2 : n2 ≤ 100 := (by have q := o2.len; simp only [List.length_map] at q; have t := HEL.out; simp only [List.length_nil] at t; omega); have hbw : Below W3.heap.size W3 w2 := ⟨hb2.os, hb2.tape, hb2.output, Nat.le_trans (by simp) hb2.size, fun k hk => (hb2.block k (by simp; omega)).trans (Below.heap_alloc W3 _ k hk)⟩; have HC2 := Lib.hid (HCB.out w2 hbw); have HW2 := Lib.hid hbw; have HO2 := Lib.hid o2; clear hb2 hbw o2) | (go_at_call 38; refine (laws_sameBytes _ _ _ _ _ _ (Nc.encU [] m) (Nc.encU [] m) _ (by exact HO2.out.rd) (by simpa [Addr.add_lit] using HC2.out) (by omega) (by omega)).mono ?_; rintro e w3 ⟨rfl, hb3⟩; rw [show decide (Nc.encU [] m = Nc.encU [] m) = true from decide_eq_true rfl]))
      have hb4 : Below w2.heap.size w2 w3 := ⟨hb3.os, hb3.tape, hb3.output, hb3.size, hb3.block⟩
      have hs2 := HW2.out.size
      go_wp2_with fail
      go_ret
      exact ⟨rfl, (HBB.out.trans (HW2.out.mono (by omega))).trans (hb4.mono (by omega))⟩

/-! ### THE ROW's STEP: WRITTEN OUT: LEAVE IT -/
set_option maxRecDepth 100000 in
theorem lifted (os : Os) (started : os.Started) (H : Type) (enc : TypeId × Value → H) :
    ReturnsInHanded {} Try.checked os 9 .any (Rows.fnVarintsSpec.pre6 enc Try.prog Try.f9 Rows.fnVarintsRow.domain false) (Rows.fnVarintsSpec.post enc Try.prog Try.f9 false true false false) := by
  refine returnsInHanded_of_change (C := Try.checked) own started (by kernel_rfl) Try.func9
    (ChangeSpec.witness6 (enc := enc) (C := Try.checked) false ⟨#[], #[.slice none 0 0], []⟩ 8 (by kernel_rfl) (by kernel_rfl) (by kernel_rfl) (by kernel_rfl)) ?_
  intro W base args ds gs before hval0 hW hcnd _
  have hval : ∀ (j : Nat) t v, Try.f9.params[j]? = some t → args[j]? = some v → Value.okWide Try.prog W .any base t v := hval0
  have hW' := hW
  obtain ⟨p, q, hA0, hV, rfl, hfz, hnd⟩ := hW
  have hA : DataW.TrodAll enc Try.prog W 0 (fun _ => true) true Try.f9.params.toList args.toList ds p := hA0
  rw [Try.params9] at hA hval
  obtain ⟨v0, vs0, d0, ds0, p0, q0, hargs, rfl, rfl, h0, r0⟩ := trodAll_cons hA
  obtain ⟨rfl, rfl, rfl⟩ := trodAll_nil r0
  obtain rfl : args = #[v0] := by cases args; simp_all
  obtain ⟨rfl, rfl⟩ := trodVars_none hV
  obtain ⟨a0, len0, cap0, rfl⟩ := okWide_slice Try.underlying22 (hval 0 22 v0 rfl rfl)
  have k0 := h0
  have lt0 : ∀ x ∈ p0, x.block < W.heap.size := by obtain ⟨m, hm⟩ := k0; exact DataW.trod_lt m _ _ _ hm
  obtain ⟨z0, w0⟩ : ∃ zs, IsRow .u8 W a0 len0 cap0 zs := by
    obtain ⟨fuel, hf⟩ := h0
    rcases open_ints Try.underlying22 Try.underlying5 (by kernel_rfl) hf with ⟨hcs, _⟩ | ⟨x, l, c, zs, hcs, _, hl, hm, hz, _, hcell, hwz⟩
    · simp [Value.cells] at hcs
      obtain ⟨rfl, rfl, rfl⟩ := hcs
      exact ⟨[], .inl ⟨rfl, rfl, rfl, rfl⟩⟩
    · simp [Value.cells] at hcs
      obtain ⟨rfl, rfl, rfl⟩ := hcs
      exact ⟨zs, .inr ⟨_, rfl, hl, hm, by simpa using hz, hcell, hwz⟩⟩
  clear hA0 hval0
  refine (walk a0 len0 cap0 z0 W w0).mono fun e W' ⟨he, bel⟩ => ?_
  subst he
  exact ⟨_, rfl, _, _, _, [], _, [], hW', trodAll_mk1 (shut_bool Try.underlying4 _), (trodAll_cons_mk (Below.trod laidOut (by kernel_rfl) (of_decide_eq_true (by kernel_rfl)) k0 bel lt0) trodAll_mk0), rfl, bel.frame _, fun h => by cases h⟩

theorem over : Rows.fnVarintsRow.holds Try.pinned (OpenSpec.ofChange Rows.fnVarintsSpec) :=
  OpenClaim.holds_of_wide 9 Try.f9 rfl rfl rfl rfl rfl rfl rfl ⟨rfl, rfl, rfl, rfl, rfl⟩ rfl rfl rfl rfl rfl (by kernel_rfl) Try.func9 (by kernel_rfl)
    (of_decide_eq_true (by kernel_rfl)) (by unfold Func.isWrapper; first | (rw [if_pos (by decide +kernel)]; kernel_rfl) | (rw [if_neg (by decide +kernel)]; exact ⟨rfl, rfl⟩))
    (fun os started H enc _ => lifted os started H enc)

/-- ████ THE STATEMENT ████ -/
theorem proved : Rows.FnVarintsSaid := over
#print axioms proved
end Go.Proofs.Ytnobbojjhehdfaa.fnVarints
