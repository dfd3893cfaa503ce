/- Contracts of the drawn inputs that hold slices. Conditions: stated with each theorem. -/
import Derived.Test.YtnobbojjhehdfaaDraw3
namespace Go.Proofs.Ytnobbojjhehdfaa
open Go.RowKit
set_option maxRecDepth 100000

/-- A number and a slice. -/
def DrawsIS (t : TypeId) (kd : IntKind) (kl kh : Int) (N : Nat) (lo hi : Int) (w : World) (r : Ending) (w' : World) : Prop :=
  ∃ k A n c zs, r = .returned (.tuple #[.int .i64 k, .slice A n c]) ∧ kl ≤ k ∧ k ≤ kh ∧ n ≤ N ∧ Nc.allIn lo hi zs ∧ Own w' w.heap.size w'.heap.size t A n c (zs.map (.int kd)) ∧ Below w.heap.size w w'
/-- A slice and a number. -/
def DrawsSI (t : TypeId) (kd : IntKind) (kl kh : Int) (N : Nat) (lo hi : Int) (w : World) (r : Ending) (w' : World) : Prop :=
  ∃ k A n c zs, r = .returned (.tuple #[.slice A n c, .int .i64 k]) ∧ kl ≤ k ∧ k ≤ kh ∧ n ≤ N ∧ Nc.allIn lo hi zs ∧ Own w' w.heap.size w'.heap.size t A n c (zs.map (.int kd)) ∧ Below w.heap.size w w'
/-- Two slices. -/
def DrawsSS (t : TypeId) (kd : IntKind) (N : Nat) (lo hi : Int) (w : World) (r : Ending) (w' : World) : Prop :=
  ∃ A n c zs A2 n2 c2 zs2, r = .returned (.tuple #[.slice A n c, .slice A2 n2 c2]) ∧ n ≤ N ∧ n2 ≤ N ∧ Nc.allIn lo hi zs ∧ Nc.allIn lo hi zs2 ∧ Own w' w.heap.size w'.heap.size t A n c (zs.map (.int kd)) ∧ Own w' w.heap.size w'.heap.size t A2 n2 c2 (zs2.map (.int kd)) ∧ Below w.heap.size w w'
/-- Two slices and a number. -/
def DrawsSSI (t : TypeId) (kd : IntKind) (N : Nat) (lo hi kl kh : Int) (w : World) (r : Ending) (w' : World) : Prop :=
  ∃ A n c zs A2 n2 c2 zs2 k, r = .returned (.tuple #[.slice A n c, .slice A2 n2 c2, .int .i64 k]) ∧ n ≤ N ∧ n2 ≤ N ∧ kl ≤ k ∧ k ≤ kh ∧ Nc.allIn lo hi zs ∧ Nc.allIn lo hi zs2 ∧ Own w' w.heap.size w'.heap.size t A n c (zs.map (.int kd)) ∧ Own w' w.heap.size w'.heap.size t A2 n2 c2 (zs2.map (.int kd)) ∧ Below w.heap.size w w'
/-- A number and a string. -/
def DrawsIT (kl kh : Int) (N : Nat) (w : World) (r : Ending) (w' : World) : Prop :=
  ∃ (k : Int) (s : ByteArray), r = .returned (.tuple #[.int .i64 k, .string s]) ∧ kl ≤ k ∧ k ≤ kh ∧ s.size ≤ N ∧ Below w.heap.size w w'
/-- The cursor and two slices. -/
def DrawsCSS (w : World) (r : Ending) (w' : World) : Prop :=
  ∃ A n c zs A2 n2 c2 zs2, r = .returned (.tuple #[.pointer (some ⟨w.heap.size, 0, none⟩), .slice A n c, .slice A2 n2 c2]) ∧ n ≤ 50 ∧ n2 ≤ 50 ∧ Nc.allIn (-1) 1019 zs ∧ Nc.allIn (-1) 1019 zs2 ∧ Own w' (w.heap.size + 1) w'.heap.size 3 A n c (zs.map (.int .i64)) ∧ Own w' (w.heap.size + 1) w'.heap.size 3 A2 n2 c2 (zs2.map (.int .i64)) ∧ Cur w' w.heap.size ∧ Below w.heap.size w w'

set_option maxHeartbeats 1000000 in
theorem spec_DrawEncrypt (A : Option Addr) (n c : Nat) (xs : List Int) (w : World) (hr : Rd w w.heap.size A n (xs.map (.int .u8))) (hz : ∀ x ∈ xs, 0 ≤ x ∧ x ≤ 255) (hn : n ≤ 1048576) :
    Calls Try.prog 37 #[.slice A n c] w (DrawsIS 5 .u8 (-1) 2147483648 8 0 255 w) := by
  have HZ := Lib.hid hz
  clear hz
  go_enter Try.func37, Try.ntmps37
  go_wp2_with fail
  refine (spec_l1New _ _ _ xs _ hr HZ.out hn).mono ?_
  rintro e W1 ⟨rfl, cu, hB⟩
  have hs1 := hB.size
  go_wp2_with fail
  refine (spec_l3Word _ _ cu).mono ?_
  rintro e W2 ⟨k, rfl, k0, k1, cu1, gr1⟩
  have hs2 := gr1.size
  replace hB := hB.grown gr1 (by omega) (fun k hk => by injection hk with hk; omega)
  clear cu gr1
  have cu := cu1
  clear cu1
  go_wp2_with fail
  refine (spec_l1Below _ 8 _ cu (by omega) (by omega)).mono ?_
  rintro e W3 ⟨x, rfl, x0, x1, cu1, gr1⟩
  have hs3 := gr1.size
  replace hB := hB.grown gr1 (by omega) (fun k hk => by injection hk with hk; omega)
  clear cu gr1
  have cu := cu1
  clear cu1
  go_wp2_with fail
  refine (spec_l1Bytes _ _ _ cu (by omega) (by omega)).mono ?_
  rintro e W4 ⟨Aa, na, ca, za, rfl, hna, halla, oa, cu1, gr1⟩
  have hla := cu.lt
  have hs4 := gr1.size
  replace hB := hB.grown gr1 (by omega) (fun k hk => by injection hk with hk; omega)
  clear cu gr1
  have cu := cu1
  clear cu1
  go_wp2_with fail
  go_ret2
  exact ⟨k, _, _, _, za, rfl, k0, k1, by omega, halla, oa.more (by omega) (by omega), hB⟩

set_option maxHeartbeats 1000000 in
theorem spec_DrawKeyedHash (A : Option Addr) (n c : Nat) (xs : List Int) (w : World) (hr : Rd w w.heap.size A n (xs.map (.int .u8))) (hz : ∀ x ∈ xs, 0 ≤ x ∧ x ≤ 255) (hn : n ≤ 1048576) :
    Calls Try.prog 41 #[.slice A n c] w (DrawsIS 3 .i64 (-1) 2147483648 8 (-1) 2147483648 w) := by
  have HZ := Lib.hid hz
  clear hz
  go_enter Try.func41, Try.ntmps41
  go_wp2_with fail
  refine (spec_l1New _ _ _ xs _ hr HZ.out hn).mono ?_
  rintro e W1 ⟨rfl, cu, hB⟩
  have hs1 := hB.size
  go_wp2_with fail
  refine (spec_l3Word _ _ cu).mono ?_
  rintro e W2 ⟨k, rfl, k0, k1, cu1, gr1⟩
  have hs2 := gr1.size
  replace hB := hB.grown gr1 (by omega) (fun k hk => by injection hk with hk; omega)
  clear cu gr1
  have cu := cu1
  clear cu1
  go_wp2_with fail
  refine (spec_l3Words _ _ cu).mono ?_
  rintro e W3 ⟨Aa, na, ca, za, rfl, hna, halla, oa, cu1, gr1⟩
  have hla := cu.lt
  have hs3 := gr1.size
  replace hB := hB.grown gr1 (by omega) (fun k hk => by injection hk with hk; omega)
  clear cu gr1
  have cu := cu1
  clear cu1
  go_wp2_with fail
  go_ret2
  exact ⟨k, _, _, _, za, rfl, k0, k1, by omega, halla, oa.more (by omega) (by omega), hB⟩

set_option maxHeartbeats 1000000 in
theorem spec_DrawAppendBytes (A : Option Addr) (n c : Nat) (xs : List Int) (w : World) (hr : Rd w w.heap.size A n (xs.map (.int .u8))) (hz : ∀ x ∈ xs, 0 ≤ x ∧ x ≤ 255) (hn : n ≤ 1048576) :
    Calls Try.prog 48 #[.slice A n c] w (DrawsSS 5 .u8 8 0 255 w) := by
  have HZ := Lib.hid hz
  clear hz
  go_enter Try.func48, Try.ntmps48
  go_wp2_with fail
  refine (spec_l1New _ _ _ xs _ hr HZ.out hn).mono ?_
  rintro e W1 ⟨rfl, cu, hB⟩
  have hs1 := hB.size
  go_wp2_with fail
  refine (spec_l1Below _ 3 _ cu (by omega) (by omega)).mono ?_
  rintro e W2 ⟨x, rfl, x0, x1, cu1, gr1⟩
  have hs2 := gr1.size
  replace hB := hB.grown gr1 (by omega) (fun k hk => by injection hk with hk; omega)
  clear cu gr1
  have cu := cu1
  clear cu1
  go_wp2_with fail
  refine (spec_l1Bytes _ _ _ cu (by omega) (by omega)).mono ?_
  rintro e W3 ⟨Aa, na, ca, za, rfl, hna, halla, oa, cu1, gr1⟩
  have hla := cu.lt
  have hs3 := gr1.size
  replace hB := hB.grown gr1 (by omega) (fun k hk => by injection hk with hk; omega)
  clear cu gr1
  have cu := cu1
  clear cu1
  go_wp2_with fail
  refine (spec_l1Below _ 6 _ cu (by omega) (by omega)).mono ?_
  rintro e W4 ⟨y, rfl, y0, y1, cu1, gr1⟩
  replace oa := oa.grown gr1 (ne_cur hla)
  have hs4 := gr1.size
  replace hB := hB.grown gr1 (by omega) (fun k hk => by injection hk with hk; omega)
  clear cu gr1
  have cu := cu1
  clear cu1
  go_wp2_with fail
  refine (spec_l1Bytes _ _ _ cu (by omega) (by omega)).mono ?_
  rintro e W5 ⟨Ab, nb, cb, zb, rfl, hnb, hallb, ob, cu1, gr1⟩
  have hlb := cu.lt
  replace oa := oa.grown gr1 (ne_cur hla)
  have hs5 := gr1.size
  replace hB := hB.grown gr1 (by omega) (fun k hk => by injection hk with hk; omega)
  clear cu gr1
  have cu := cu1
  clear cu1
  go_wp2_with fail
  go_ret2
  exact ⟨_, _, _, za, _, _, _, zb, rfl, by omega, by omega, halla, hallb, oa.more (by omega) (by omega), ob.more (by omega) (by omega), hB⟩

set_option maxHeartbeats 1000000 in
theorem spec_DrawAppendUvarint (A : Option Addr) (n c : Nat) (xs : List Int) (w : World) (hr : Rd w w.heap.size A n (xs.map (.int .u8))) (hz : ∀ x ∈ xs, 0 ≤ x ∧ x ≤ 255) (hn : n ≤ 1048576) :
    Calls Try.prog 53 #[.slice A n c] w (DrawsSI 5 .u8 (-9223372036854775808) 9223372036854775807 8 0 255 w) := by
  have HZ := Lib.hid hz
  clear hz
  go_enter Try.func53, Try.ntmps53
  go_wp2_with fail
  refine (spec_l1New _ _ _ xs _ hr HZ.out hn).mono ?_
  rintro e W1 ⟨rfl, cu, hB⟩
  have hs1 := hB.size
  go_wp2_with fail
  refine (spec_l1Below _ 3 _ cu (by omega) (by omega)).mono ?_
  rintro e W2 ⟨x, rfl, x0, x1, cu1, gr1⟩
  have hs2 := gr1.size
  replace hB := hB.grown gr1 (by omega) (fun k hk => by injection hk with hk; omega)
  clear cu gr1
  have cu := cu1
  clear cu1
  go_wp2_with fail
  refine (spec_l1Bytes _ _ _ cu (by omega) (by omega)).mono ?_
  rintro e W3 ⟨Aa, na, ca, za, rfl, hna, halla, oa, cu1, gr1⟩
  have hla := cu.lt
  have hs3 := gr1.size
  replace hB := hB.grown gr1 (by omega) (fun k hk => by injection hk with hk; omega)
  clear cu gr1
  have cu := cu1
  clear cu1
  go_wp2_with fail
  refine (spec_l1One _ _ cu).mono ?_
  rintro e W4 ⟨k, rfl, k0, k1, cu1, gr1⟩
  replace oa := oa.grown gr1 (ne_cur hla)
  have hs4 := gr1.size
  replace hB := hB.grown gr1 (by omega) (fun k hk => by injection hk with hk; omega)
  clear cu gr1
  have cu := cu1
  clear cu1
  go_wp2_with fail
  go_ret2
  exact ⟨k, _, _, _, za, rfl, k0, k1, by omega, halla, oa.more (by omega) (by omega), hB⟩

set_option maxHeartbeats 1000000 in
theorem spec_l5Two (A : Option Addr) (n c : Nat) (xs : List Int) (w : World) (hr : Rd w w.heap.size A n (xs.map (.int .u8))) (hz : ∀ x ∈ xs, 0 ≤ x ∧ x ≤ 255) (hn : n ≤ 1048576) :
    Calls Try.prog 113 #[.slice A n c] w (DrawsCSS w) := by
  have HZ := Lib.hid hz
  clear hz
  go_enter Try.func113, Try.ntmps113
  go_wp2_with fail
  refine (spec_l1New _ _ _ xs _ hr HZ.out hn).mono ?_
  rintro e W1 ⟨rfl, cu, hB⟩
  have hs1 := hB.size
  go_wp2_with fail
  refine (spec_l1Below _ 5 _ cu (by omega) (by omega)).mono ?_
  rintro e W2 ⟨x, rfl, x0, x1, cu1, gr1⟩
  have hs2 := gr1.size
  replace hB := hB.grown gr1 (by omega) (fun k hk => by injection hk with hk; omega)
  clear cu gr1
  have cu := cu1
  clear cu1
  go_wp2_with fail
  refine (spec_l5Any _ _ _ cu (by omega) (by omega)).mono ?_
  rintro e W3 ⟨Aa, na, ca, za, rfl, hna, halla, oa, cu1, gr1⟩
  have hla := cu.lt
  have hs3 := gr1.size
  replace hB := hB.grown gr1 (by omega) (fun k hk => by injection hk with hk; omega)
  clear cu gr1
  have cu := cu1
  clear cu1
  go_wp2_with fail
  refine (spec_l5Any _ _ _ cu (by omega) (by omega)).mono ?_
  rintro e W4 ⟨Ab, nb, cb, zb, rfl, hnb, hallb, ob, cu1, gr1⟩
  have hlb := cu.lt
  replace oa := oa.grown gr1 (ne_cur hla)
  have hs4 := gr1.size
  replace hB := hB.grown gr1 (by omega) (fun k hk => by injection hk with hk; omega)
  clear cu gr1
  have cu := cu1
  clear cu1
  go_wp2_with fail
  go_ret3
  exact ⟨_, _, _, za, _, _, _, zb, rfl, by omega, by omega, halla, hallb, oa.more (by omega) (by omega), ob.more (by omega) (by omega), cu, hB⟩

set_option maxHeartbeats 1000000 in
theorem spec_DrawAddScaled (A : Option Addr) (n c : Nat) (xs : List Int) (w : World) (hr : Rd w w.heap.size A n (xs.map (.int .u8))) (hz : ∀ x ∈ xs, 0 ≤ x ∧ x ≤ 255) (hn : n ≤ 1048576) :
    Calls Try.prog 64 #[.slice A n c] w (DrawsSSI 3 .i64 50 (-1) 1019 (-1) 2038 w) := by
  go_enter Try.func64, Try.ntmps64
  go_wp2_with fail
  refine (spec_l5Two _ _ _ xs _ hr hz hn).mono ?_
  rintro e W1 ⟨Aa, na, ca, za, Ab, nb, cb, zb, rfl, hna, hnb, halla, hallb, oa, ob, cu, hB⟩
  have hs1 := hB.size
  have hla : w.heap.size < w.heap.size + 1 := by omega
  have hlb := hla
  go_wp2_with fail
  refine (spec_l4Any _ _ cu).mono ?_
  rintro e W2 ⟨k, rfl, k0, k1, cu1, gr1⟩
  replace oa := oa.grown gr1 (ne_cur hla)
  replace ob := ob.grown gr1 (ne_cur hlb)
  have hs2 := gr1.size
  replace hB := hB.grown gr1 (by omega) (fun k hk => by injection hk with hk; omega)
  clear cu gr1
  have cu := cu1
  clear cu1
  go_wp2_with fail
  go_ret3
  exact ⟨_, _, _, za, _, _, _, zb, k, rfl, hna, hnb, k0, k1, halla, hallb, oa.more (by omega) (by omega), ob.more (by omega) (by omega), hB⟩

set_option maxHeartbeats 2000000 in
theorem spec_DrawReadUvarint (A : Option Addr) (n c : Nat) (xs : List Int) (w : World) (hr : Rd w w.heap.size A n (xs.map (.int .u8))) (hz : ∀ x ∈ xs, 0 ≤ x ∧ x ≤ 255) (hn : n ≤ 1048576) :
    Calls Try.prog 56 #[.slice A n c] w (DrawsSI 5 .u8 (-1) 3 8 0 255 w) := by
  obtain ⟨i0, hi0, hz0, hz1, hz2⟩ := info_parts Try.info_byte
  have HZ := Lib.hid hz
  clear hz
  go_enter Try.func56, Try.ntmps56
  go_wp2_with fail
  refine (spec_l1New _ _ _ xs _ hr HZ.out hn).mono ?_
  rintro e W1 ⟨rfl, cu, hB⟩
  have hs1 := hB.size
  go_wp2_with fail
  refine (spec_l1Once _ 2 _ cu (by omega) (by omega)).mono ?_
  rintro e W2 ⟨b, rfl, cu1, gr1⟩
  have hs2 := gr1.size
  replace hB := hB.grown gr1 (by omega) (fun k hk => by injection hk with hk; omega)
  clear cu gr1
  have cu := cu1
  clear cu1
  cases b
  · go_wp2_with fail
    refine (spec_l1Below _ 8 _ (cu.below ((Below.refl _ _).alloc (Nat.le_refl _) _) cu.lt) (by omega) (by omega)).mono ?_
    rintro e W3 ⟨q, rfl, q0, q1, cu1, gr1⟩
    have hlt2 := cu.lt
    have ho1 : Own W3 W2.heap.size W3.heap.size 5 (some ⟨W2.heap.size, 0, none⟩) 0 0 (([] : List Int).map (.int .u8)) := ((Own.of (World.ownsRow_lit W2 #[] 0 (Nat.le_refl _) (by decide) rfl) (Nat.le_refl _)).grown gr1 (ne_cur hlt2)).more (Nat.le_refl _) gr1.size
    have gr : W2.grownBy W3 (some w.heap.size) := World.grownBy.trans (World.grownBy_alloc _ _ _) gr1
    clear gr1 cu
    have cu := cu1
    clear cu1
    go_wp2_with fail
    go_loopw [5, 6] (fun v i wr => ∃ (k n : Nat) (A1 : Option Addr) (c1 : Nat) (zs : List Int), n + k ≤ 8 ∧ i = .int .i64 k ∧ v = .slice A1 n c1 ∧ Own wr W2.heap.size wr.heap.size 5 A1 n c1 (zs.map (.int .u8)) ∧ Nc.allIn 0 255 zs ∧ Cur wr w.heap.size ∧ W2.grownBy wr (some w.heap.size)) (fun _ i _ => (intOf i).toNat)
    case atStart => obtain ⟨k, rfl⟩ := Int.eq_ofNat_of_zero_le q0; exact ⟨k, 0, _, _, [], by omega, rfl, rfl, ho1, Nc.allIn_nil _ _, cu, gr⟩
    case round =>
      clear ho1 cu gr
      obtain ⟨k, n, A1, c1, zs, hk, rfl, rfl, hown, hall, cu, gr⟩ := hrel
      have hsz := gr.size
      by_cases hlt : 0 < k
      · go_wp2_with fail
        refine (spec_l1Int _ _ _ _ [128, 255, 0, 1, 127] 0 255 _ _ (cu.below ((Below.refl _ _).alloc (Nat.le_refl _) _) cu.lt) (Own.of (World.ownsRow_lit _ _ _ cu.lt (by decide) rfl) (Nat.le_refl _)) (by omega) (by omega) (by intro x hx; simp only [List.mem_cons, List.not_mem_nil, or_false] at hx; omega)).mono ?_
        rintro e w1 ⟨x, rfl, x0, x1, cu1, gr1⟩
        have ho1 := (hown.below ((Below.refl _ _).alloc (Nat.le_refl _) _) (Nat.le_refl _)).grown gr1 (ne_cur hlt2)
        replace gr := (gr.trans (World.grownBy_alloc _ _ _)).trans gr1
        have hs1 := gr.size
        go_wp2_with (first | (at_builtin; refine wpList_app1 _ rfl _ _ _ rfl W2.heap.size 5 i0 _ 1 Try.underlying22 hi0 hz0 hz1 hz2 rfl A1 n c1 _ rfl ho1.1 (.int .u8 x) rfl _ rfl (by unfold maxLen; omega) (by omega) (by omega) ?_; intro A3 c3 w3 hown3 hb3) | fail)
        go_roundw
        case rel => exact ⟨k - 1, n + 1, A3, c3, zs ++ [x], by omega, by go_num, rfl, by rw [List.map_append]; exact Own.of hown3 (Nat.le_refl _), Nc.allIn_snoc hall x0 x1, cu1.below hb3 hlt2, grown_below gr hb3⟩
        case measure => simp [intOf]; omega
      · obtain rfl : k = 0 := by omega
        go_wp2_with fail
        refine (spec_l1Below _ 4 _ cu (by omega) (by omega)).mono ?_
        rintro e w4 ⟨y, rfl, y0, y1, cu4, gr4⟩
        have ho4 := hown.grown gr4 (ne_cur hlt2)
        have hs4 := gr4.size
        have hB4 := hB.grown (gr.trans gr4) (by omega) (fun k hk => by injection hk with hk; omega)
        go_wp2_with fail
        go_ret2
        exact ⟨y - 1, _, _, _, zs, rfl, by omega, by omega, by omega, hall, ho4.more (by omega) (by omega), hB4⟩
  · go_wp2_with fail
    refine (spec_l1Bytes _ 1 _ cu (by omega) (by omega)).mono ?_
    rintro e W3 ⟨Aa, na, ca, za, rfl, hna, halla, oa, cu1, gr1⟩
    have hla := cu.lt
    have hs3 := gr1.size
    replace hB := hB.grown gr1 (by omega) (fun k hk => by injection hk with hk; omega)
    clear cu gr1
    have cu := cu1
    clear cu1
    go_wp2_with fail
    refine (spec_l1Num _ _ cu).mono ?_
    rintro e W4 ⟨k, rfl, k0, k1, cu1, gr1⟩
    replace oa := oa.grown gr1 (ne_cur hla)
    have hs4 := gr1.size
    replace hB := hB.grown gr1 (by omega) (fun k hk => by injection hk with hk; omega)
    clear cu gr1
    have cu := cu1
    clear cu1
    have lza := oa.len
    have HLZ : Hid (za.length = na) := Lib.hid (by simpa using lza)
    clear lza
    go_wp2_with fail
    refine (spec_AppendUvarint _ _ _ k za _ (oa.rd.more (by omega)) (by omega)).mono ?_
    rintro e W5 ⟨A5, n5, c5, rfl, o5, hb5⟩
    have hs5 := hb5.size
    have hl5 : n5 ≤ 8 := by have q := o5.len; simp only [List.length_map] at q; have t := Nc.encU_len za k; have t2 := HLZ.out; omega
    replace hB := hB.trans (hb5.mono (by omega))
    go_wp2_with fail
    go_ret2
    exact ⟨1, _, _, _, _, rfl, by omega, by omega, hl5, fun x hx => Nc.encU_byte halla x hx, o5.more (by omega) (by omega), hB⟩

/-- A string of a list that lies behind the cursor. -/
def DrawsT (P : ByteArray → Prop) (w : World) (g : Nat) (r : Ending) (w' : World) : Prop := ∃ s : ByteArray, r = .returned (.string s) ∧ P s ∧ Cur w' g ∧ w.grownBy w' (some g)

theorem spec_l1Str (g : Nat) (A : Option Addr) (n c : Nat) (zs : List ByteArray) (P : ByteArray → Prop) (B : Nat) (w : World) (hcur : Cur w g) (hr : Own w (g + 1) B 9 A n c (zs.map .string)) (h0 : 1 ≤ n) (h1 : n ≤ 1000000) (hz : ∀ x ∈ zs, P x) :
    Calls Try.prog 102 #[.pointer (some ⟨g, 0, none⟩), .slice A n c] w (DrawsT P w g) := by
  have HZ := Lib.hid hz
  clear hz
  go_enter Try.func102, Try.ntmps102
  go_wp2_with fail
  refine (spec_l1Below g n _ hcur (by omega) (by omega)).mono ?_
  rintro e w1 ⟨x, rfl, x0, x1, cu, gr⟩
  have hr1 := hr.grown gr (fun k hk => by injection hk with hk; omega)
  obtain ⟨k, rfl⟩ := Int.eq_ofNat_of_zero_le x0
  obtain ⟨b, o, u, rfl, hbB, hu, hc⟩ := hr1.rd.at_ (j := k) (by omega)
  rw [List.getElem?_map] at hu
  obtain ⟨s, hs, rfl⟩ : ∃ s, zs[k]? = some s ∧ Value.string s = u := by
    cases h : zs[k]? with
    | none => rw [h] at hu; cases hu
    | some s => rw [h] at hu; simp only [Option.map_some, Option.some.injEq] at hu; exact ⟨s, rfl, hu⟩
  have hP := Lib.hid (HZ.out s (List.mem_of_getElem? hs))
  have hk : k < n := by omega
  clear hs hu
  go_wp2_with fail
  go_ret
  exact ⟨_, rfl, hP.out, cu, gr⟩

set_option maxHeartbeats 1000000 in
theorem spec_DrawDeriveFromString (A : Option Addr) (n c : Nat) (xs : List Int) (w : World) (hr : Rd w w.heap.size A n (xs.map (.int .u8))) (hz : ∀ x ∈ xs, 0 ≤ x ∧ x ≤ 255) (hn : n ≤ 1048576) :
    Calls Try.prog 45 #[.slice A n c] w (DrawsIT (-1) 2147483648 8 w) := by
  have HZ := Lib.hid hz
  clear hz
  go_enter Try.func45, Try.ntmps45
  go_wp2_with fail
  refine (spec_l1New _ _ _ xs _ hr HZ.out hn).mono ?_
  rintro e W1 ⟨rfl, cu, hB⟩
  have hs1 := hB.size
  go_wp2_with fail
  refine (spec_l3Word _ _ cu).mono ?_
  rintro e W2 ⟨k, rfl, k0, k1, cu1, gr1⟩
  have hs2 := gr1.size
  replace hB := hB.grown gr1 (by omega) (fun k hk => by injection hk with hk; omega)
  clear cu gr1
  have cu := cu1
  clear cu1
  go_wp2_with fail
  refine (spec_l1Str _ _ _ _ [⟨#[]⟩, ⟨#[97]⟩, ⟨#[98]⟩, ⟨#[97, 98]⟩, ⟨#[110, 101, 119, 115]⟩, ⟨#[120]⟩] (fun s => s.size ≤ 8) _ _ (cu.below ((Below.refl _ _).alloc (Nat.le_refl _) _) cu.lt) (Own.of (World.ownsRow_lit _ _ _ cu.lt (by decide) rfl) (Nat.le_refl _)) (by omega) (by omega) (by decide)).mono ?_
  rintro e W3 ⟨s, rfl, hs, cu1, gr1⟩
  replace hB := hB.grown ((World.grownBy_alloc _ _ _).trans gr1) (by omega) (fun k hk => by injection hk with hk; omega)
  go_wp2_with fail
  go_ret2
  exact ⟨k, s, rfl, k0, k1, hs, hB⟩

end Go.Proofs.Ytnobbojjhehdfaa
