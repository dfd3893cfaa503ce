/- Contracts of the drawn numbers. Conditions: stated with each theorem. -/
import Derived.Test.YtklgjhhlcpfkoaaDoorDraw
namespace Go.Proofs.YtklgjhhlcpfkoaaDoor
open Go.RowKit

theorem mul_bd {x y a b : Int} (hx : 0 ≤ x ∧ x ≤ a) (hy : 0 ≤ y ∧ y ≤ b) : 0 ≤ x * y ∧ x * y ≤ a * b :=
  ⟨Int.mul_nonneg hx.1 hy.1, Int.mul_le_mul hx.2 hy.2 hy.1 (by omega)⟩
/-- Two numbers are drawn; nothing that was there has turned. -/
def DrawsII (la ha lb hb : Int) (w : World) (r : Ending) (w' : World) : Prop := ∃ x y : Int, r = .returned (.tuple #[.int .i64 x, .int .i64 y]) ∧ la ≤ x ∧ x ≤ ha ∧ lb ≤ y ∧ y ≤ hb ∧ Below w.heap.size w w'
def DrawsIB (la ha : Int) (w : World) (r : Ending) (w' : World) : Prop := ∃ x : Int, r = .returned (.int .i64 x) ∧ la ≤ x ∧ x ≤ ha ∧ Below w.heap.size w w'
/-- What the laws take out of the code at a place. -/
def Nc.atV (xs : List Int) (i : Nat) : Int := if i < xs.length then xs.getD i 0 else ((i : Int) * 31 + (xs.length : Int) * 7) % 256
theorem Nc.atV_bd {xs : List Int} (h : ∀ x ∈ xs, 0 ≤ x ∧ x ≤ 255) (i : Nat) : 0 ≤ Nc.atV xs i ∧ Nc.atV xs i ≤ 255 := by
  unfold Nc.atV
  split
  · rename_i hi
    rw [List.getD_eq_getElem?_getD, List.getElem?_eq_getElem hi]
    exact h _ (List.getElem_mem _)
  · omega

theorem laws_big (A : Option Addr) (n c : Nat) (w : World) :
    Calls Tryd.prog 8 #[.slice A n c] w fun e w' => e = .returned (.bool (decide ((1048576 : Int) < n))) ∧ w = w' := by
  go_enter Tryd.func8, Tryd.ntmps8
  go_wp2
  go_ret
  exact ⟨rfl, rfl⟩
set_option maxHeartbeats 1000000 in
theorem spec_l1Num (g : Nat) (w : World) (hcur : Cur w g) :
    Calls Tryd.prog 22 #[.pointer (some ⟨g, 0, none⟩)] w (DrawsI 0 1000000000000 w g) := by
  have gr : w.grownBy w (some g) := World.grownBy.refl _ _
  have cu := hcur
  clear hcur
  go_enter Tryd.func22, Tryd.ntmps22
  go_wp2_with fail
  refine (spec_l1Below g 4 _ cu (by omega) (by omega)).mono ?_
  rintro e W1 ⟨x, rfl, x0, x1, cu1, gr1⟩
  replace gr := gr.trans gr1
  clear cu
  have cu := cu1
  clear cu1 gr1
  obtain rfl | rfl | rfl | rfl : x = 0 ∨ x = 1 ∨ x = 2 ∨ x = 3 := by omega
  · go_wp2_with fail
    refine (spec_l1Below g 2000 _ cu (by omega) (by omega)).mono ?_
    rintro e W2 ⟨y, rfl, y0, y1, cu1, gr1⟩
    replace gr := gr.trans gr1
    clear cu
    have cu := cu1
    clear cu1 gr1
    go_wp2_with fail
    go_ret
    exact ⟨_, rfl, by omega, by omega, cu, gr⟩
  · go_wp2_with fail
    refine (spec_l1Int g _ _ _ [0, 1, 127, 128, 2147483646, 2147483647, 1000000000000] (0) 1000000000000 _ _ (cu.below ((Below.refl _ _).alloc (Nat.le_refl _) _) cu.lt) (Own.of (World.ownsRow_lit _ _ _ cu.lt (by decide) rfl) (Nat.le_refl _)) (by omega) (by omega) (by intro x hx; simp only [List.mem_cons, List.not_mem_nil, or_false] at hx; omega)).mono ?_
    rintro e W2 ⟨y, rfl, y0, y1, cu1, gr1⟩
    replace gr := (gr.trans (World.grownBy_alloc _ _ _)).trans gr1
    clear cu
    have cu := cu1
    clear cu1 gr1
    go_wp2_with fail
    go_ret
    exact ⟨_, rfl, by omega, by omega, cu, gr⟩
  · go_wp2_with fail
    refine (spec_l1Below g 1000000 _ cu (by omega) (by omega)).mono ?_
    rintro e W2 ⟨y, rfl, y0, y1, cu1, gr1⟩
    replace gr := gr.trans gr1
    clear cu
    have cu := cu1
    clear cu1 gr1
    go_wp2_with fail
    refine (spec_l1Below g 1000000 _ cu (by omega) (by omega)).mono ?_
    rintro e W3 ⟨z, rfl, z0, z1, cu1, gr1⟩
    replace gr := gr.trans gr1
    clear cu
    have cu := cu1
    clear cu1 gr1
    obtain ⟨p0, p1⟩ := mul_bd (a := 999999) (b := 999999) ⟨y0, by omega⟩ ⟨z0, by omega⟩
    go_wp2_with fail
    go_ret
    exact ⟨_, rfl, by omega, by omega, cu, gr⟩
  · go_wp2_with fail
    refine (spec_l1Below g 20 _ cu (by omega) (by omega)).mono ?_
    rintro e W2 ⟨y, rfl, y0, y1, cu1, gr1⟩
    replace gr := gr.trans gr1
    clear cu
    have cu := cu1
    clear cu1 gr1
    go_wp2_with fail
    go_ret
    exact ⟨_, rfl, by omega, by omega, cu, gr⟩

set_option maxHeartbeats 1000000 in
theorem spec_l1Odd (g : Nat) (w : World) (hcur : Cur w g) :
    Calls Tryd.prog 37 #[.pointer (some ⟨g, 0, none⟩)] w (DrawsI (-9223372036854775808) 9223372036854775807 w g) := by
  have gr : w.grownBy w (some g) := World.grownBy.refl _ _
  have cu := hcur
  clear hcur
  go_enter Tryd.func37, Tryd.ntmps37
  go_wp2_with fail
  refine (spec_l1Int g _ _ _ [-1, 0, 1, 2, 255, 256, 65535, 2147483647, 2147483648, 4294967295, 4294967296, -2147483648, 9223372036854775807, -9223372036854775808] (-9223372036854775808) 9223372036854775807 _ _ (cu.below ((Below.refl _ _).alloc (Nat.le_refl _) _) cu.lt) (Own.of (World.ownsRow_lit _ _ _ cu.lt (by decide) rfl) (Nat.le_refl _)) (by omega) (by omega) (by intro x hx; simp only [List.mem_cons, List.not_mem_nil, or_false] at hx; omega)).mono ?_
  rintro e W1 ⟨x, rfl, x0, x1, cu1, gr1⟩
  replace gr := (gr.trans (World.grownBy_alloc _ _ _)).trans gr1
  clear cu
  have cu := cu1
  clear cu1 gr1
  go_wp2_with fail
  go_ret
  exact ⟨_, rfl, by omega, by omega, cu, gr⟩

set_option maxHeartbeats 1000000 in
theorem spec_l1Raw (g : Nat) (w : World) (hcur : Cur w g) :
    Calls Tryd.prog 29 #[.pointer (some ⟨g, 0, none⟩)] w (DrawsI (-9223372036854775808) 9223372036854775807 w g) := by
  have gr : w.grownBy w (some g) := World.grownBy.refl _ _
  have cu := hcur
  clear hcur
  go_enter Tryd.func29, Tryd.ntmps29
  go_wp2_with fail
  refine (spec_l1Once g 2 _ cu (by omega) (by omega)).mono ?_
  rintro e W1 ⟨b, rfl, cu1, gr1⟩
  replace gr := gr.trans gr1
  clear cu
  have cu := cu1
  clear cu1 gr1
  cases b
  · go_wp2_with fail
    refine (spec_l1Int g _ _ _ [-1, 1000000000000, 1000000000001] (-1) 1000000000001 _ _ (cu.below ((Below.refl _ _).alloc (Nat.le_refl _) _) cu.lt) (Own.of (World.ownsRow_lit _ _ _ cu.lt (by decide) rfl) (Nat.le_refl _)) (by omega) (by omega) (by intro x hx; simp only [List.mem_cons, List.not_mem_nil, or_false] at hx; omega)).mono ?_
    rintro e W2 ⟨x, rfl, x0, x1, cu1, gr1⟩
    replace gr := (gr.trans (World.grownBy_alloc _ _ _)).trans gr1
    clear cu
    have cu := cu1
    clear cu1 gr1
    go_wp2_with fail
    go_ret
    exact ⟨_, rfl, by omega, by omega, cu, gr⟩
  · go_wp2_with fail
    refine (spec_l1Odd g _ cu).mono ?_
    rintro e W2 ⟨x, rfl, x0, x1, cu1, gr1⟩
    replace gr := gr.trans gr1
    clear cu
    have cu := cu1
    clear cu1 gr1
    go_wp2_with fail
    go_ret
    exact ⟨_, rfl, by omega, by omega, cu, gr⟩

set_option maxHeartbeats 1000000 in
theorem spec_l1One (g : Nat) (w : World) (hcur : Cur w g) :
    Calls Tryd.prog 23 #[.pointer (some ⟨g, 0, none⟩)] w (DrawsI (-9223372036854775808) 9223372036854775807 w g) := by
  have gr : w.grownBy w (some g) := World.grownBy.refl _ _
  have cu := hcur
  clear hcur
  go_enter Tryd.func23, Tryd.ntmps23
  go_wp2_with fail
  refine (spec_l1Once g 6 _ cu (by omega) (by omega)).mono ?_
  rintro e W1 ⟨b, rfl, cu1, gr1⟩
  replace gr := gr.trans gr1
  clear cu
  have cu := cu1
  clear cu1 gr1
  cases b
  · go_wp2_with fail
    refine (spec_l1Num g _ cu).mono ?_
    rintro e W2 ⟨x, rfl, x0, x1, cu1, gr1⟩
    replace gr := gr.trans gr1
    clear cu
    have cu := cu1
    clear cu1 gr1
    go_wp2_with fail
    go_ret
    exact ⟨_, rfl, by omega, by omega, cu, gr⟩
  · go_wp2_with fail
    refine (spec_l1Raw g _ cu).mono ?_
    rintro e W2 ⟨x, rfl, x0, x1, cu1, gr1⟩
    replace gr := gr.trans gr1
    clear cu
    have cu := cu1
    clear cu1 gr1
    go_wp2_with fail
    go_ret
    exact ⟨_, rfl, by omega, by omega, cu, gr⟩

set_option maxHeartbeats 1000000 in
theorem spec_DrawCeilDiv (A : Option Addr) (n c : Nat) (xs : List Int) (w : World) (hr : Rd w w.heap.size A n (xs.map (.int .u8))) (hz : ∀ x ∈ xs, 0 ≤ x ∧ x ≤ 255) (hn : n ≤ 1048576) :
    Calls Tryd.prog 12 #[.slice A n c] w (DrawsII (-9223372036854775808) 9223372036854775807 (-9223372036854775808) 9223372036854775807 w) := by
  have HZ := Lib.hid hz
  clear hz
  go_enter Tryd.func12, Tryd.ntmps12
  go_wp2_with fail
  refine (spec_l1New _ _ _ xs _ hr HZ.out hn).mono ?_
  rintro e W1 ⟨rfl, cu, hB⟩
  have hsB := hB.size
  have gr : W1.grownBy W1 (some w.heap.size) := World.grownBy.refl _ _
  go_wp2_with fail
  refine (spec_l1One _ _ cu).mono ?_
  rintro e W2 ⟨x, rfl, x0, x1, cu1, gr1⟩
  replace gr := gr.trans gr1
  clear cu
  have cu := cu1
  clear cu1 gr1
  go_wp2_with fail
  refine (spec_l1One _ _ cu).mono ?_
  rintro e W3 ⟨y, rfl, y0, y1, cu1, gr1⟩
  replace gr := gr.trans gr1
  clear cu
  have cu := cu1
  clear cu1 gr1
  go_wp2_with fail
  go_ret2
  exact ⟨x, y, rfl, by omega, by omega, by omega, by omega, (hB.grown gr hsB (fun k hk => by injection hk with hk; omega))⟩

set_option maxHeartbeats 1000000 in
theorem spec_DrawFormatInt (A : Option Addr) (n c : Nat) (xs : List Int) (w : World) (hr : Rd w w.heap.size A n (xs.map (.int .u8))) (hz : ∀ x ∈ xs, 0 ≤ x ∧ x ≤ 255) (hn : n ≤ 1048576) :
    Calls Tryd.prog 10 #[.slice A n c] w (DrawsIB (-9223372036854775808) 9223372036854775807 w) := by
  have HZ := Lib.hid hz
  clear hz
  go_enter Tryd.func10, Tryd.ntmps10
  go_wp2_with fail
  refine (spec_l1New _ _ _ xs _ hr HZ.out hn).mono ?_
  rintro e W1 ⟨rfl, cu, hB⟩
  have hsB := hB.size
  have gr : W1.grownBy W1 (some w.heap.size) := World.grownBy.refl _ _
  go_wp2_with fail
  refine (spec_l1One _ _ cu).mono ?_
  rintro e W2 ⟨x, rfl, x0, x1, cu1, gr1⟩
  replace gr := gr.trans gr1
  clear cu
  have cu := cu1
  clear cu1 gr1
  go_wp2_with fail
  go_ret
  exact ⟨x, rfl, by omega, by omega, (hB.grown gr hsB (fun k hk => by injection hk with hk; omega))⟩

end Go.Proofs.YtklgjhhlcpfkoaaDoor
