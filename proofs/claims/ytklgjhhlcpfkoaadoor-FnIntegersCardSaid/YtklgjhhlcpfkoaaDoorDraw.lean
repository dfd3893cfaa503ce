/- Contracts of the cursor out of which the laws draw their inputs: what is drawn is a value of the right kind; the cursor's block alone is written. Conditions: stated with each theorem. -/
import Derived.Test.YtklgjhhlcpfkoaaDoorVec3
import Derived.Test.YtklgjhhlcpfkoaaDoorLawkit
import Derived.OneCell
import Derived.Laws.Rows
namespace Go.Proofs.YtklgjhhlcpfkoaaDoor
open Go.RowKit

/-- The cursor lies in block g; the bytes that it reads lie below it. -/
def Cur (w : World) (g : Nat) : Prop :=
  ∃ (A : Option Addr) (n c : Nat) (xs : List Int) (i : Nat) (h : Int), w.heap[g]? = some (.cells #[.slice A n c, .int .i64 i, .int .i64 h] 47 (0, 0)) ∧ Rd w g A n (xs.map (.int .u8)) ∧ (∀ x ∈ xs, 0 ≤ x ∧ x ≤ 255) ∧ i ≤ n ∧ n ≤ 1048576
/-- What a draw leaves. -/
def Drawn (w : World) (g : Nat) (w' : World) : Prop := Cur w' g ∧ w.grownBy w' (some g)
/-- A number is drawn. -/
def DrawsI (lo hi : Int) (w : World) (g : Nat) (r : Ending) (w' : World) : Prop := ∃ x : Int, r = .returned (.int .i64 x) ∧ lo ≤ x ∧ x ≤ hi ∧ Cur w' g ∧ w.grownBy w' (some g)
/-- A truth is drawn. -/
def DrawsB (w : World) (g : Nat) (r : Ending) (w' : World) : Prop := ∃ x : Bool, r = .returned (.bool x) ∧ Cur w' g ∧ w.grownBy w' (some g)

theorem grown_self (w : World) (g j : Nat) (v : Value) : w.grownBy (w.setCell ⟨g, j, none⟩ v) (some g) :=
  ⟨rfl, rfl, rfl, by simp [World.setCell], fun k _ hne => Below.heap_setCell _ _ _ _ (fun e => hne (by rw [e]))⟩
theorem grown_drewN (w : World) (n : Nat) (row : Option Nat) : w.grownBy (w.drewN n) row := ⟨rfl, rfl, rfl, Nat.le_refl _, fun _ _ _ => rfl⟩
theorem three_set {w : World} {g : Nat} {cs : Array Value} {t : TypeId} (h : w.heap[g]? = some (.cells cs t (0, 0))) (j : Nat) (u : Value) : (w.setCell ⟨g, j, none⟩ u).heap[g]? = some (.cells (cs.setIfInBounds j u) t (0, 0)) := by
  have hlt := lt_of_block h
  have h' : w.heap[g] = .cells cs t (0, 0) := by simpa [Array.getElem?_eq_getElem hlt] using h
  show (w.heap.modify g _)[g]? = _
  rw [Array.getElem?_eq_getElem (by simpa using hlt), Array.getElem_modify_self, h']
  rfl
theorem Cur.lt {w : World} {g : Nat} (h : Cur w g) : g < w.heap.size := by obtain ⟨A, n, c, xs, i, h', hg, _⟩ := h; exact lt_of_block hg
/-- The cursor's block and what lies below it are as they were: so is the cursor. -/
theorem Cur.keep {w w' : World} {g : Nat} (h : Cur w g) (hk : ∀ k, k ≤ g → w'.heap[k]? = w.heap[k]?) : Cur w' g := by
  obtain ⟨A, n, c, xs, i, h', hg, hr, r⟩ := h
  exact ⟨A, n, c, xs, i, h', (hk g (Nat.le_refl _)).trans hg, hr.keep fun p hp => World.cell?_of_block (hk p.block (by omega)), r⟩
theorem Cur.below {w w' : World} {g C : Nat} (h : Cur w g) (hb : Below C w w') (hC : g < C) : Cur w' g := h.keep fun k hk => hb.block k (by omega)
theorem Cur.grown {w w' : World} {g : Nat} {row : Option Nat} (h : Cur w g) (hg : w.grownBy w' row) (hr : ∀ k, row = some k → g < k) : Cur w' g :=
  h.keep fun k hk => hg.block k (by have := h.lt; omega) (fun e => by have := hr k e.symm; omega)
theorem DrawsI.wide {lo hi lo' hi' : Int} {w : World} {g : Nat} {r : Ending} {w' : World} (h : DrawsI lo hi w g r w') (h1 : lo' ≤ lo) (h2 : hi ≤ hi') : DrawsI lo' hi' w g r w' := by
  obtain ⟨x, e, a, b, c⟩ := h
  exact ⟨x, e, by omega, by omega, c⟩

theorem cur_set {w : World} {g : Nat} {A : Option Addr} {n c : Nat} {xs : List Int} {i : Nat} {h : Int} (hg : w.heap[g]? = some (.cells #[.slice A n c, .int .i64 i, .int .i64 h] 47 (0, 0))) (hr : Rd w g A n (xs.map (.int .u8))) (hz : ∀ x ∈ xs, 0 ≤ x ∧ x ≤ 255) (hi : i ≤ n) (hn : n ≤ 1048576) (h2 : Int) :
    Cur (w.setCell ⟨g, 2, none⟩ (.int .i64 h2)) g ∧ w.grownBy (w.setCell ⟨g, 2, none⟩ (.int .i64 h2)) (some g) :=
  ⟨⟨A, n, c, xs, i, h2, three_set hg 2 _, hr.keep fun p hp => World.cell?_of_block (Below.heap_setCell _ _ _ _ (by simp only; omega)), hz, hi, hn⟩, grown_self _ _ _ _⟩
theorem cur_set2 {w : World} {g : Nat} {A : Option Addr} {n c : Nat} {xs : List Int} {i : Nat} {h : Int} (hg : w.heap[g]? = some (.cells #[.slice A n c, .int .i64 i, .int .i64 h] 47 (0, 0))) (hr : Rd w g A n (xs.map (.int .u8))) (hz : ∀ x ∈ xs, 0 ≤ x ∧ x ≤ 255) (hi : i < n) (hn : n ≤ 1048576) (h2 : Int) :
    Cur ((w.setCell ⟨g, 2, none⟩ (.int .i64 h2)).setCell ⟨g, 1, none⟩ (.int .i64 ((i : Int) + 1))) g ∧ w.grownBy ((w.setCell ⟨g, 2, none⟩ (.int .i64 h2)).setCell ⟨g, 1, none⟩ (.int .i64 ((i : Int) + 1))) (some g) := by
  refine ⟨⟨A, n, c, xs, i + 1, h2, three_set (three_set hg 2 _) 1 _, ?_, hz, by omega, hn⟩, World.grownBy.trans (grown_self _ _ _ _) (grown_self _ _ _ _)⟩
  exact (hr.keep fun p hp => World.cell?_of_block (Below.heap_setCell _ _ _ _ (by simp only; omega))).keep fun p hp => World.cell?_of_block (Below.heap_setCell _ _ _ _ (by simp only; omega))

theorem bits_and255 (x : Int) : 0 ≤ bits .and .i64 x 255 ∧ bits .and .i64 x 255 ≤ 255 := by
  have h : bits .and .i64 x 255 = x % 256 := by
    have h255 : (BitVec.ofInt 64 255).toNat = 2 ^ 8 - 1 := by decide
    have key : (BitVec.ofInt 64 x &&& BitVec.ofInt 64 255).toNat = (x % ((2 ^ 64 : Nat) : Int)).toNat % 2 ^ 8 := by
      rw [BitVec.toNat_and, BitVec.toNat_ofInt, h255, Nat.and_two_pow_sub_one_eq_mod]
    show IntKind.i64.wrap ((BitVec.ofInt 64 x &&& BitVec.ofInt 64 255).toNat : Nat) = x % 256
    rw [key, IntKind.wrap_i64]
    omega
  omega

set_option maxRecDepth 100000 in
theorem spec_l1New (A : Option Addr) (n c : Nat) (xs : List Int) (w : World) (hr : Rd w w.heap.size A n (xs.map (.int .u8))) (hz : ∀ x ∈ xs, 0 ≤ x ∧ x ≤ 255) (hn : n ≤ 1048576) :
    Calls Tryd.prog 19 #[.slice A n c] w fun e w' => e = .returned (.pointer (some ⟨w.heap.size, 0, none⟩)) ∧ Cur w' w.heap.size ∧ Below w.heap.size w w' := by
  have HZ := Lib.hid hz
  clear hz
  go_enter Tryd.func19, Tryd.ntmps19
  go_wp2
  go_loop [3, 4] (fun h i => ∃ (k : Nat) (H : Int), k ≤ n ∧ i = .int .i64 k ∧ h = .int .i64 H) (fun _ i => n - (intOf i).toNat)
  case atStart => exact ⟨0, _, Nat.zero_le _, rfl, rfl⟩
  case round =>
    obtain ⟨k, H, hk, rfl, rfl⟩ := hrel
    by_cases hlt : k < n
    · by_cases h4 : k < 4000
      · obtain ⟨b, o, x, rfl, hbB, hx, hc⟩ := hr.int hlt
        obtain ⟨x0, x1⟩ := HZ.out x (List.mem_of_getElem? hx)
        clear hx
        go_wp2
        go_round
        case rel => exact ⟨k + 1, _, by omega, by go_num, rfl⟩
        case measure => simp [intOf]; omega
      · go_wp2
        go_ret
        exact ⟨rfl, ⟨A, n, c, xs, 0, H, heap_alloc_new _ _, (hr.below ((Below.refl _ _).alloc (Nat.le_refl _) _) (Nat.le_refl _)), HZ.out, by omega, hn⟩, (Below.refl _ _).alloc (Nat.le_refl _) _⟩
    · go_wp2
      go_ret
      exact ⟨rfl, ⟨A, n, c, xs, 0, H, heap_alloc_new _ _, (hr.below ((Below.refl _ _).alloc (Nat.le_refl _) _) (Nat.le_refl _)), HZ.out, by omega, hn⟩, (Below.refl _ _).alloc (Nat.le_refl _) _⟩

set_option maxHeartbeats 1000000 in
theorem spec_l1Byte (g : Nat) (w : World) (hcur : Cur w g) :
    Calls Tryd.prog 36 #[.pointer (some ⟨g, 0, none⟩)] w (DrawsI 0 255 w g) := by
  obtain ⟨A, n, c, xs, i, h, hg, hr, hz, hi, hn⟩ := hcur
  have hlt := lt_of_block hg
  have c0 : w.cell? ⟨g, 0, none⟩ = some (.slice A n c) := by simp [World.cell?, hg]
  have c1 : w.cell? ⟨g, 1, none⟩ = some (.int .i64 i) := by simp [World.cell?, hg]
  have c2 : w.cell? ⟨g, 2, none⟩ = some (.int .i64 h) := by simp [World.cell?, hg]
  have f1 : w.frozen? ⟨g, 1, none⟩ = false := by simp [World.frozen?, hg]
  have f2 : w.frozen? ⟨g, 2, none⟩ = false := by simp [World.frozen?, hg]
  have HG := Lib.hid hg
  have HZ := Lib.hid hz
  clear hg hz
  by_cases hin : i < n
  · obtain ⟨b, o, x, rfl, hbB, hx, hc⟩ := hr.int hin
    obtain ⟨x0, x1⟩ := HZ.out x (List.mem_of_getElem? hx)
    clear hx
    go_enter Tryd.func36, Tryd.ntmps36
    go_wp2
    generalize wrap64 (h * 6364136223846793005) = h1
    generalize wrap64 (h1 + 1442695040888963407) = h2
    generalize hW : w.setCell _ _ = W
    have d0 : W.cell? ⟨g, 0, none⟩ = some (.slice (some ⟨b, o, none⟩) n c) := by rw [← hW]; simp [World.cell?, three_set HG.out]
    have d1 : W.cell? ⟨g, 1, none⟩ = some (.int .i64 i) := by rw [← hW]; simp [World.cell?, three_set HG.out]
    have d2 : W.cell? ⟨g, 2, none⟩ = some (.int .i64 h2) := by rw [← hW]; simp [World.cell?, three_set HG.out]
    have f3 : W.frozen? ⟨g, 1, none⟩ = false := by rw [← hW]; simp [World.frozen?, three_set HG.out]
    have dc : W.cell? ⟨b, o + i, none⟩ = some (.int .u8 x) := by
      rw [← hW, World.cell?_of_block (Below.heap_setCell _ _ _ _ (by simp only; omega))]; exact hc
    have HW := Lib.hid hW
    have e0 : (0 : Int) ≤ i := by omega
    have e1 : (i : Int) < n := by omega
    clear hW c0 c1 c2 f1 f2 hc
    go_quiet (fail)
    have hb1 := bits_and255 (bits BinOp.xor IntKind.i64 (h2 / 8589934592) (h2 / 140737488355328))
    generalize bits BinOp.and IntKind.i64 (bits BinOp.xor IntKind.i64 (h2 / 8589934592) (h2 / 140737488355328)) 255 = y1 at hb1 ⊢
    obtain ⟨y0, y2⟩ := hb1
    generalize bits BinOp.xor IntKind.i64 (h2 / 8589934592) (h2 / 140737488355328) = y3
    go_wp2
    go_quiet (fail)
    go_wp2
    go_quiet (fail)
    go_wp2
    go_ret
    have fin := cur_set2 HG.out hr HZ.out hin hn h2
    rw [HW.out] at fin
    exact ⟨_, rfl, (bits_and255 _).1, (bits_and255 _).2, fin.1, ⟨fin.2.os, fin.2.tape, fin.2.output, fin.2.size, fin.2.block⟩⟩
  · go_enter Tryd.func36, Tryd.ntmps36
    go_wp2
    generalize wrap64 (h * 6364136223846793005) = h1
    generalize wrap64 (h1 + 1442695040888963407) = h2
    generalize hW : w.setCell _ _ = W
    have d0 : W.cell? ⟨g, 0, none⟩ = some (.slice A n c) := by rw [← hW]; simp [World.cell?, three_set HG.out]
    have d1 : W.cell? ⟨g, 1, none⟩ = some (.int .i64 i) := by rw [← hW]; simp [World.cell?, three_set HG.out]
    have d2 : W.cell? ⟨g, 2, none⟩ = some (.int .i64 h2) := by rw [← hW]; simp [World.cell?, three_set HG.out]
    have HW := Lib.hid hW
    have e1 : (n : Int) ≤ i := by omega
    clear hW c0 c1 c2 f1 f2
    go_quiet (fail)
    have hb1 := bits_and255 (bits BinOp.xor IntKind.i64 (h2 / 8589934592) (h2 / 140737488355328))
    generalize bits BinOp.and IntKind.i64 (bits BinOp.xor IntKind.i64 (h2 / 8589934592) (h2 / 140737488355328)) 255 = y1 at hb1 ⊢
    obtain ⟨y0, y2⟩ := hb1
    generalize bits BinOp.xor IntKind.i64 (h2 / 8589934592) (h2 / 140737488355328) = y3
    go_wp2
    go_quiet (fail)
    go_wp2
    go_ret
    have fin := cur_set HG.out hr HZ.out hi hn h2
    rw [HW.out] at fin
    exact ⟨_, rfl, y0, y2, fin.1, ⟨fin.2.os, fin.2.tape, fin.2.output, fin.2.size, fin.2.block⟩⟩

set_option maxHeartbeats 1000000 in
theorem spec_l1Below (g : Nat) (n : Int) (w : World) (hcur : Cur w g) (h0 : 1 ≤ n) (h1 : n ≤ 9223372036854775807) :
    Calls Tryd.prog 27 #[.pointer (some ⟨g, 0, none⟩), .int .i64 n] w (DrawsI 0 (n - 1) w g) := by
  by_cases hn : n ≤ 256
  · go_enter Tryd.func27, Tryd.ntmps27
    go_wp2_with fail
    refine (spec_l1Byte g _ hcur).mono ?_
    rintro e w1 ⟨x, rfl, x0, x1, cu, gr⟩
    have m0 := Int.emod_nonneg x (show n ≠ 0 by omega)
    have m1 := Int.emod_lt_of_pos x (show 0 < n by omega)
    go_wp2_with fail
    go_ret
    exact ⟨_, rfl, m0, by omega, cu, gr⟩
  · go_enter Tryd.func27, Tryd.ntmps27
    go_wp2_with fail
    refine (spec_l1Byte g _ hcur).mono ?_
    rintro e w1 ⟨x, rfl, x0, x1, cu, gr⟩
    go_wp2_with fail
    refine (spec_l1Byte g _ cu).mono ?_
    rintro e w2 ⟨y, rfl, y0, y1, cu2, gr2⟩
    go_wp2_with fail
    refine (spec_l1Byte g _ cu2).mono ?_
    rintro e w3 ⟨z, rfl, z0, z1, cu3, gr3⟩
    have m0 := Int.emod_nonneg (x * 65536 + y * 256 + z) (show n ≠ 0 by omega)
    have m1 := Int.emod_lt_of_pos (x * 65536 + y * 256 + z) (show 0 < n by omega)
    go_wp2_with fail
    go_ret
    exact ⟨_, rfl, m0, by omega, cu3, (gr.trans gr2).trans gr3⟩
theorem spec_l1Once (g : Nat) (n : Int) (w : World) (hcur : Cur w g) (h0 : 1 ≤ n) (h1 : n ≤ 9223372036854775807) :
    Calls Tryd.prog 20 #[.pointer (some ⟨g, 0, none⟩), .int .i64 n] w (DrawsB w g) := by
  go_enter Tryd.func20, Tryd.ntmps20
  go_wp2_with fail
  refine (spec_l1Below g n _ hcur h0 h1).mono ?_
  rintro e w1 ⟨x, rfl, x0, x1, cu, gr⟩
  go_wp2_with fail
  go_ret
  exact ⟨_, rfl, cu, gr⟩
/-- One of the numbers of a list that lies behind the cursor. -/
theorem spec_l1Int (g : Nat) (A : Option Addr) (n c : Nat) (zs : List Int) (lo hi : Int) (B : Nat) (w : World) (hcur : Cur w g) (hr : Own w (g + 1) B 3 A n c (zs.map (.int .i64))) (h0 : 1 ≤ n) (h1 : n ≤ 1000000) (hz : ∀ x ∈ zs, lo ≤ x ∧ x ≤ hi) :
    Calls Tryd.prog 28 #[.pointer (some ⟨g, 0, none⟩), .slice A n c] w (DrawsI lo hi w g) := by
  have HZ := Lib.hid hz
  clear hz
  go_enter Tryd.func28, Tryd.ntmps28
  go_wp2_with fail
  refine (spec_l1Below g n _ hcur (by omega) (by omega)).mono ?_
  rintro e w1 ⟨x, rfl, x0, x1, cu, gr⟩
  have hr1 := hr.grown gr (fun k hk => by injection hk with hk; omega)
  obtain ⟨k, rfl⟩ := Int.eq_ofNat_of_zero_le x0
  obtain ⟨b, o, x, rfl, hbB, hx, hc⟩ := hr1.rd.int (j := k) (by omega)
  obtain ⟨z0, z1⟩ := HZ.out x (List.mem_of_getElem? hx)
  have hk : k < n := by omega
  clear hx
  go_wp2_with fail
  go_ret
  exact ⟨_, rfl, z0, z1, cu, gr⟩

end Go.Proofs.YtklgjhhlcpfkoaaDoor
