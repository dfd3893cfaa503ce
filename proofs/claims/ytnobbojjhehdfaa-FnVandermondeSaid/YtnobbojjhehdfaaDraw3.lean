/- Contracts of the drawn slices. Conditions: stated with each theorem. -/
import Derived.Test.YtnobbojjhehdfaaDraw2
import Derived.Test.YtnobbojjhehdfaaEnc
namespace Go.Proofs.Ytnobbojjhehdfaa
open Go.RowKit
set_option maxRecDepth 100000

/-- All numbers of a list lie between two bounds. -/
def Nc.allIn (lo hi : Int) (zs : List Int) : Prop := ∀ x ∈ zs, lo ≤ x ∧ x ≤ hi
theorem Nc.allIn_nil (lo hi : Int) : Nc.allIn lo hi [] := fun x hx => by simp at hx
theorem Nc.allIn_snoc {lo hi : Int} {zs : List Int} {x : Int} (h : Nc.allIn lo hi zs) (h0 : lo ≤ x) (h1 : x ≤ hi) : Nc.allIn lo hi (zs ++ [x]) := by
  intro y hy
  rcases List.mem_append.1 hy with hy | hy
  · exact h y hy
  · rw [List.mem_singleton.1 hy]; exact ⟨h0, h1⟩
theorem Nc.allIn_wide {lo hi lo' hi' : Int} {zs : List Int} (h : Nc.allIn lo hi zs) (h0 : lo' ≤ lo) (h1 : hi ≤ hi') : Nc.allIn lo' hi' zs := fun x hx => by have := h x hx; omega
theorem Nc.allIn_zero {lo hi : Int} (n : Nat) (h0 : lo ≤ 0) (h1 : 0 ≤ hi) : Nc.allIn lo hi (List.replicate n 0) := fun x hx => by rw [List.eq_of_mem_replicate hx]; omega
theorem rd_rep (n : Nat) : List.replicate n (Value.int .i64 0) = (List.replicate n (0 : Int)).map (.int .i64) := by simp
/-- A slice is drawn: new memory, and the cursor's block alone is written. -/
def DrawsS (t : TypeId) (kd : IntKind) (N : Nat) (lo hi : Int) (w : World) (g : Nat) (r : Ending) (w' : World) : Prop :=
  ∃ A n c zs, r = .returned (.slice A n c) ∧ n ≤ N ∧ Nc.allIn lo hi zs ∧ Own w' w.heap.size w'.heap.size t A n c (zs.map (.int kd)) ∧ Cur w' g ∧ w.grownBy w' (some g)
theorem grown_below {w w1 w3 : World} {row : Option Nat} (h : w.grownBy w1 row) (hb : Below w.heap.size w1 w3) : w.grownBy w3 row :=
  ⟨hb.os.trans h.os, hb.tape.trans h.tape, hb.output.trans h.output, Nat.le_trans h.size hb.size, fun k hk hne => (hb.block k hk).trans (h.block k hk hne)⟩
theorem ne_cur {g lo hi : Nat} (h : g < lo) : ∀ k, some g = some k → k < lo ∨ hi ≤ k := fun k hk => by injection hk with hk; omega

set_option maxHeartbeats 1000000 in
theorem spec_l1Bytes (g : Nat) (n : Int) (w : World) (hcur : Cur w g) (h0 : 0 ≤ n) (h1 : n ≤ 1000) :
    Calls Try.prog 97 #[.pointer (some ⟨g, 0, none⟩), .int .i64 n] w (DrawsS 5 .u8 n.toNat 0 255 w g) := by
  obtain ⟨i0, hi0, hz0, hz1, hz2⟩ := info_parts Try.info_byte
  have hglt := hcur.lt
  obtain ⟨m, rfl⟩ := Int.eq_ofNat_of_zero_le h0
  go_enter Try.func97, Try.ntmps97
  go_wp2_with fail
  go_loopw [5, 6] (fun v i wr => ∃ (k : Nat) (A1 : Option Addr) (c1 : Nat) (zs : List Int), k ≤ m ∧ i = .int .i64 k ∧ v = .slice A1 k c1 ∧ Own wr w.heap.size wr.heap.size 5 A1 k c1 (zs.map (.int .u8)) ∧ Nc.allIn 0 255 zs ∧ Cur wr g ∧ w.grownBy wr (some g)) (fun _ i _ => m - (intOf i).toNat)
  case atStart => exact ⟨0, _, _, [], Nat.zero_le _, rfl, rfl, Own.of (World.ownsRow_lit w #[] 0 (Nat.le_refl _) (by decide) rfl) (Nat.le_refl _), Nc.allIn_nil _ _, hcur.below ((Below.refl _ _).alloc (Nat.le_refl _) _) hglt, World.grownBy_alloc _ _ _⟩
  case round =>
    obtain ⟨k, A1, c1, zs, hk, rfl, rfl, hown, hall, cu, gr⟩ := hrel
    have hsz := gr.size
    by_cases hlt : k < m
    · go_wp2_with fail
      refine (spec_l1Byte g _ cu).mono ?_
      rintro e w1 ⟨x, rfl, x0, x1, cu1, gr1⟩
      have ho1 := hown.grown gr1 (ne_cur hglt)
      have hs1 := gr1.size
      go_wp2_with (first | (at_builtin; refine wpList_app1 _ rfl _ _ _ rfl w.heap.size 5 i0 _ 1 Try.underlying22 hi0 hz0 hz1 hz2 rfl A1 k c1 _ rfl ho1.1 (.int .u8 x) rfl _ rfl (by unfold maxLen; omega) (by omega) (by omega) ?_; intro A3 c3 w3 hown3 hb3) | fail)
      go_roundw
      case rel => exact ⟨k + 1, A3, c3, zs ++ [x], by omega, by go_num, rfl, by rw [List.map_append]; exact Own.of hown3 (Nat.le_refl _), Nc.allIn_snoc hall x0 x1, cu1.below hb3 hglt, grown_below (gr.trans gr1) hb3⟩
      case measure => simp [intOf]; omega
    · obtain rfl : k = m := by omega
      go_wp2_with fail
      go_ret
      exact ⟨_, _, _, zs, rfl, by omega, hall, hown, cu, gr⟩

set_option maxHeartbeats 2000000 in
theorem spec_l5Vector (g : Nat) (n : Int) (w : World) (hcur : Cur w g) (h0 : 0 ≤ n) (h1 : n ≤ 1000) :
    Calls Try.prog 109 #[.pointer (some ⟨g, 0, none⟩), .int .i64 n] w (DrawsS 3 .i64 n.toNat 0 1018 w g) := by
  obtain ⟨i0, hi0, hz0, hz1, hz2⟩ := info_parts Try.info_int
  have hglt := hcur.lt
  obtain ⟨m, rfl⟩ := Int.eq_ofNat_of_zero_le h0
  go_enter Try.func109, Try.ntmps109
  go_wp2_with fail
  go_loopw [5, 6] (fun v i wr => ∃ (k : Nat) (A1 : Option Addr) (c1 : Nat) (zs : List Int), k ≤ m ∧ i = .int .i64 k ∧ v = .slice A1 k c1 ∧ Own wr w.heap.size wr.heap.size 3 A1 k c1 (zs.map (.int .i64)) ∧ Nc.allIn 0 1018 zs ∧ Cur wr g ∧ w.grownBy wr (some g)) (fun _ i _ => m - (intOf i).toNat)
  case atStart => exact ⟨0, _, _, [], Nat.zero_le _, rfl, rfl, Own.of (World.ownsRow_lit w #[] 0 (Nat.le_refl _) (by decide) rfl) (Nat.le_refl _), Nc.allIn_nil _ _, hcur.below ((Below.refl _ _).alloc (Nat.le_refl _) _) hglt, World.grownBy_alloc _ _ _⟩
  case round =>
    obtain ⟨k, A1, c1, zs, hk, rfl, rfl, hown, hall, cu, gr⟩ := hrel
    have hsz := gr.size
    by_cases hlt : k < m
    · go_wp2_with fail
      refine (spec_l1Once g 3 _ cu (by omega) (by omega)).mono ?_
      rintro e w1 ⟨b, rfl, cu1, gr1⟩
      cases b
      · go_wp2_with fail
        refine (spec_l4Element g _ cu1).mono ?_
        rintro e w2 ⟨x, rfl, x0, x1, cu2, gr2⟩
        replace gr1 := gr1.trans gr2
        clear cu1
        have cu1 := cu2
        clear cu2 gr2
        have ho1 := hown.grown gr1 (ne_cur hglt)
        have hs1 := gr1.size
        go_wp2_with (first | (at_builtin; refine wpList_app1 _ rfl _ _ _ rfl w.heap.size 3 i0 _ 8 Try.underlying30 hi0 hz0 hz1 hz2 rfl A1 k c1 _ rfl ho1.1 (.int .i64 x) rfl _ rfl (by unfold maxLen; omega) (by omega) (by omega) ?_; intro A3 c3 w3 hown3 hb3) | fail)
        go_roundw
        case rel => exact ⟨k + 1, A3, c3, zs ++ [x], by omega, by go_num, rfl, by rw [List.map_append]; exact Own.of hown3 (Nat.le_refl _), Nc.allIn_snoc hall x0 x1, cu1.below hb3 hglt, grown_below (gr.trans gr1) hb3⟩
        case measure => simp [intOf]; omega
      · have ho1 := hown.grown gr1 (ne_cur hglt)
        have hs1 := gr1.size
        go_wp2_with (first | (at_builtin; refine wpList_app1 _ rfl _ _ _ rfl w.heap.size 3 i0 _ 8 Try.underlying30 hi0 hz0 hz1 hz2 rfl A1 k c1 _ rfl ho1.1 (.int .i64 0) rfl _ rfl (by unfold maxLen; omega) (by omega) (by omega) ?_; intro A3 c3 w3 hown3 hb3) | fail)
        go_roundw
        case rel => exact ⟨k + 1, A3, c3, zs ++ [0], by omega, by go_num, rfl, by rw [List.map_append]; exact Own.of hown3 (Nat.le_refl _), Nc.allIn_snoc hall (by omega) (by omega), cu1.below hb3 hglt, grown_below (gr.trans gr1) hb3⟩
        case measure => simp [intOf]; omega
    · obtain rfl : k = m := by omega
      go_wp2_with fail
      go_ret
      exact ⟨_, _, _, zs, rfl, by omega, hall, hown, cu, gr⟩

set_option maxHeartbeats 2000000 in
theorem spec_l5Any (g : Nat) (n : Int) (w : World) (hcur : Cur w g) (h0 : 0 ≤ n) (h1 : n ≤ 1000) :
    Calls Try.prog 110 #[.pointer (some ⟨g, 0, none⟩), .int .i64 n] w (DrawsS 3 .i64 (n.toNat + 42) (-1) 1019 w g) := by
  obtain ⟨i0, hi0, hz0, hz1, hz2⟩ := info_parts Try.info_int
  have hglt := hcur.lt
  have gr : w.grownBy w (some g) := World.grownBy.refl _ _
  have cu := hcur
  clear hcur
  go_enter Try.func110, Try.ntmps110
  go_wp2_with fail
  refine (spec_l5Vector g n _ cu h0 h1).mono ?_
  rintro e W1 ⟨A1, n1, c1, zs, rfl, hn1, hall, ho, cu1, gr1⟩
  replace gr := gr.trans gr1
  have hs1 := gr1.size
  clear cu gr1
  have cu := cu1
  clear cu1
  go_wp2_with fail
  refine (spec_l1Below g 10 _ cu (by omega) (by omega)).mono ?_
  rintro e W2 ⟨x, rfl, x0, x1, cu1, gr1⟩
  have ho2 := ho.grown gr1 (ne_cur hglt)
  replace gr := gr.trans gr1
  have hs2 := gr1.size
  clear cu gr1 ho
  have cu := cu1
  clear cu1
  by_cases hx0 : x = 0
  · subst hx0
    go_wp2_with fail
    refine (spec_l1Int g _ _ _ [-1, 0, 1019] (-1) 1019 _ _ (cu.below ((Below.refl _ _).alloc (Nat.le_refl _) _) cu.lt) (Own.of (World.ownsRow_lit _ _ _ cu.lt (by decide) rfl) (Nat.le_refl _)) (by omega) (by omega) (by intro x hx; simp only [List.mem_cons, List.not_mem_nil, or_false] at hx; omega)).mono ?_
    rintro e W3 ⟨y, rfl, y0, y1, cu1, gr1⟩
    have ho3 := (ho2.below ((Below.refl _ _).alloc (Nat.le_refl _) _) hs2).grown gr1 (ne_cur hglt)
    replace gr := (gr.trans (World.grownBy_alloc _ _ _)).trans gr1
    have hs3 := gr.size
    clear cu gr1
    have cu := cu1
    clear cu1
    go_wp2_with (first | (at_builtin; refine wpList_app1 _ rfl _ _ _ rfl w.heap.size 3 i0 _ 8 Try.underlying30 hi0 hz0 hz1 hz2 rfl A1 n1 c1 _ rfl ho3.1 (.int .i64 y) rfl _ rfl (by unfold maxLen; omega) (by omega) (by omega) ?_; intro A3 c3 w3 hown3 hb3) | fail)
    go_ret
    exact ⟨_, _, _, zs ++ [y], rfl, by omega, Nc.allIn_snoc (Nc.allIn_wide hall (by omega) (by omega)) y0 y1, by rw [List.map_append]; exact Own.of hown3 (Nat.le_refl _), cu.below hb3 hglt, grown_below gr hb3⟩
  · by_cases hx1 : x = 1
    · subst hx1
      go_wp2_with fail
      refine (spec_l1Below g 2 _ cu (by omega) (by omega)).mono ?_
      rintro e W3 ⟨y, rfl, y0, y1, cu1, gr1⟩
      replace gr := gr.trans gr1
      have hs3 := gr.size
      clear cu gr1
      have cu := cu1
      clear cu1
      obtain ⟨q, rfl⟩ := Int.eq_ofNat_of_zero_le y0
      go_wp2_with (first | (at_make; refine wpList_mk _ rfl _ _ _ rfl w.heap.size 3 i0 .i64 Try.underlying30 hi0 hz0 hz1 .i64 .i64 _ _ (40 + q) rfl rfl (by omega) (by omega) (by rw [hz2]; omega) (by unfold maxLen; omega) (by omega) ?_; intro w4 hown4 hb4) | fail)
      go_ret
      exact ⟨_, _, _, List.replicate (40 + q) 0, rfl, by omega, Nc.allIn_zero _ (by omega) (by omega), by rw [← rd_rep]; exact Own.of hown4 (Nat.le_refl _), cu.below hb4 hglt, grown_below gr hb4⟩
    · have e0 : (x == 0) = false := by simpa using hx0
      have e1 : (x == 1) = false := by simpa using hx1
      go_wp2_with fail
      go_ret
      exact ⟨_, _, _, zs, rfl, by omega, Nc.allIn_wide hall (by omega) (by omega), ho2.more (Nat.le_refl _) hs2, cu, gr⟩

set_option maxHeartbeats 1000000 in
theorem spec_l3Words (g : Nat) (w : World) (hcur : Cur w g) :
    Calls Try.prog 99 #[.pointer (some ⟨g, 0, none⟩)] w (DrawsS 3 .i64 4 (-1) 2147483648 w g) := by
  obtain ⟨i0, hi0, hz0, hz1, hz2⟩ := info_parts Try.info_int
  have hglt := hcur.lt
  go_enter Try.func99, Try.ntmps99
  go_wp2_with fail
  refine (spec_l1Below g 5 _ (hcur.below ((Below.refl _ _).alloc (Nat.le_refl _) _) hglt) (by omega) (by omega)).mono ?_
  rintro e W1 ⟨q, rfl, q0, q1, cu, gr1⟩
  have ho1 : Own W1 w.heap.size W1.heap.size 3 (some ⟨w.heap.size, 0, none⟩) 0 0 (([] : List Int).map (.int .i64)) := ((Own.of (World.ownsRow_lit w #[] 0 (Nat.le_refl _) (by decide) rfl) (Nat.le_refl _)).grown gr1 (ne_cur hglt)).more (Nat.le_refl _) gr1.size
  have gr : w.grownBy W1 (some g) := World.grownBy.trans (World.grownBy_alloc _ _ _) gr1
  clear gr1
  go_wp2_with fail
  go_loopw [3, 4] (fun v i wr => ∃ (k n : Nat) (A1 : Option Addr) (c1 : Nat) (zs : List Int), n + k ≤ 4 ∧ i = .int .i64 k ∧ v = .slice A1 n c1 ∧ Own wr w.heap.size wr.heap.size 3 A1 n c1 (zs.map (.int .i64)) ∧ Nc.allIn (-1) 2147483648 zs ∧ Cur wr g ∧ w.grownBy wr (some g)) (fun _ i _ => (intOf i).toNat)
  case atStart => obtain ⟨k, rfl⟩ := Int.eq_ofNat_of_zero_le q0; exact ⟨k, 0, _, _, [], by omega, rfl, rfl, ho1, Nc.allIn_nil _ _, cu, gr⟩
  case round =>
    clear ho1 cu gr
    obtain ⟨k, n, A1, c1, zs, hk, rfl, rfl, hown, hall, cu, gr⟩ := hrel
    have hsz := gr.size
    by_cases hlt : 0 < k
    · go_wp2_with fail
      refine (spec_l3Word g _ cu).mono ?_
      rintro e w1 ⟨x, rfl, x0, x1, cu1, gr1⟩
      have ho1 := hown.grown gr1 (ne_cur hglt)
      have hs1 := gr1.size
      go_wp2_with (first | (at_builtin; refine wpList_app1 _ rfl _ _ _ rfl w.heap.size 3 i0 _ 8 Try.underlying30 hi0 hz0 hz1 hz2 rfl A1 n c1 _ rfl ho1.1 (.int .i64 x) rfl _ rfl (by unfold maxLen; omega) (by omega) (by omega) ?_; intro A3 c3 w3 hown3 hb3) | fail)
      go_roundw
      case rel => exact ⟨k - 1, n + 1, A3, c3, zs ++ [x], by omega, by go_num, rfl, by rw [List.map_append]; exact Own.of hown3 (Nat.le_refl _), Nc.allIn_snoc hall x0 x1, cu1.below hb3 hglt, grown_below (gr.trans gr1) hb3⟩
      case measure => simp [intOf]; omega
    · obtain rfl : k = 0 := by omega
      go_wp2_with fail
      go_ret
      exact ⟨_, _, _, zs, rfl, by omega, hall, hown, cu, gr⟩

end Go.Proofs.Ytnobbojjhehdfaa
