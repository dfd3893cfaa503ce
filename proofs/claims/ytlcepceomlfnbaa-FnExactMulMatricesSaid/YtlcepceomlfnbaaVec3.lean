/- Contracts of the functions that make or write slices: unit vectors, bytes as integers, marks. Conditions: stated with each theorem. -/
import Derived.Test.YtlcepceomlfnbaaVec2
namespace Go.Proofs.Ytlcepceomlfnbaa
open Go.RowKit

theorem Try.info_int : (Try.prog.info? 3).map (fun i => (i.zero, i.size, i.bytes)) = some (some (.int .i64 0), 1, 8) := by kernel_rfl

/-- The first j elements are the marks, the others are as they were. -/
def halfM (f : Int → Nat → List Int) (kd : IntKind) (xs : List Value) (k : Int) (j : Nat) : List Value := (f k j).map (.int kd) ++ xs.drop j
theorem halfM_at {f : Int → Nat → List Int} (hf : ∀ k n, (f k n).length = n) {kd : IntKind} {xs : List Value} {k : Int} {j : Nat} {u : Value} (h : xs[j]? = some u) : (halfM f kd xs k j)[j]? = some u := by
  unfold halfM
  rw [List.getElem?_append_right (by simp [hf]), List.length_map, hf, Nat.sub_self, List.getElem?_drop, Nat.add_zero, h]
theorem halfM_next {f : Int → Nat → List Int} (hf : ∀ k n, (f k n).length = n) {kd : IntKind} {xs : List Value} {k x : Int} {j : Nat} (hj : j < xs.length) (hx : f k (j + 1) = f k j ++ [x]) :
    (halfM f kd xs k j).set j (.int kd x) = halfM f kd xs k (j + 1) := by
  unfold halfM
  rw [List.set_append, if_neg (by simp [hf]), List.length_map, hf, Nat.sub_self, List.drop_eq_getElem_cons hj, List.set_cons_zero, hx]
  simp
theorem halfM_full {f : Int → Nat → List Int} {kd : IntKind} {xs : List Value} {k : Int} {n : Nat} (h : xs.length = n) : halfM f kd xs k n = (f k n).map (.int kd) := by
  unfold halfM; rw [List.drop_of_length_le (by omega), List.append_nil]
theorem halfM_zero {f : Int → Nat → List Int} (hf : ∀ k n, (f k n).length = n) {kd : IntKind} {xs : List Value} {k : Int} : halfM f kd xs k 0 = xs := by
  unfold halfM; rw [List.eq_nil_of_length_eq_zero (hf k 0)]; simp
theorem marks_next (k : Int) (n : Nat) : Nc.marks k (n + 1) = Nc.marks k n ++ [k + n] := by simp [Nc.marks, List.range_succ]
theorem marks8_next (k : Int) (n : Nat) : Nc.marks8 k (n + 1) = Nc.marks8 k n ++ [(k + n) % 256] := by simp [Nc.marks8, List.range_succ]

theorem unit_set (n j : Nat) (h : j < n) : (List.replicate n (Value.int .i64 0)).set j (.int .i64 1) = (Nc.unitTo (j : Int) n).map (.int .i64) := by
  apply List.ext_getElem?
  intro i
  rw [List.getElem?_set, List.getElem?_map, Nc.unitTo, List.getElem?_map]
  by_cases hi : i < n
  · by_cases hij : j = i
    · subst hij; simp [hi]
    · have : ¬ ((i : Int) = j) := by omega
      simp [hij, hi, this]
  · have h1 : ¬ j = i := by omega
    simp [hi, h1]

set_option maxHeartbeats 400000 in
theorem laws_markIntS (A : Option Addr) (n c : Nat) (xs : List Value) (k0 : Int) (lo hi : Nat) (w : World) (ho : Own w lo hi 3 A n c xs) (hk0 : 0 ≤ k0) (hk1 : k0 ≤ 1099511627776) (hn : n ≤ 1099511627776) :
    Calls Try.prog 18 #[.slice A n c, .int .i64 k0] w fun e w' => e = .returned (.int .i64 (k0 + n)) ∧ Own w' lo hi 3 A n c ((Nc.marks k0 n).map (.int .i64)) ∧ w.grownBy w' (A.map (·.block)) := by
  have HL := Lib.hid ho.len
  go_enter Try.func18, Try.ntmps18
  go_wp2
  go_loopw [1, 5] (fun q i wr => ∃ j : Nat, j ≤ n ∧ i = .int .i64 j ∧ q = .int .i64 (k0 + j) ∧ Own wr lo hi 3 A n c (halfM Nc.marks .i64 xs k0 j) ∧ w.grownBy wr (A.map (·.block))) (fun _ i _ => n - (intOf i).toNat)
  case atStart => exact ⟨0, Nat.zero_le _, rfl, by simp, by rw [halfM_zero Nc.marks_len]; exact ho, World.grownBy.refl _ _⟩
  case round =>
    obtain ⟨j, hj, rfl, rfl, hw, hg⟩ := hrel
    by_cases hlt : j < n
    · obtain ⟨g, rfl, hlo, hhi⟩ := hw.addr (by omega)
      obtain ⟨u, hu⟩ : ∃ u, xs[j]? = some u := ⟨_, List.getElem?_eq_getElem (by rw [HL.out]; exact hlt)⟩
      have hcell := hw.1.cellAt j (by omega)
      rw [halfM_at Nc.marks_len hu] at hcell
      have hfz := hw.1.frozenAt j
      have hst := hw.1.stored j (.int .i64 (k0 + j))
      rw [halfM_next Nc.marks_len (by rw [HL.out]; exact hlt) (marks_next k0 j)] at hst
      have HU := Lib.hid hu
      clear hu
      go_wp2
      go_roundw
      case rel => exact ⟨j + 1, by omega, by go_num, by go_num, ⟨hst.1, hw.2⟩, World.grownBy.trans hg hst.2⟩
      case measure => simp [intOf]; omega
    · obtain rfl : j = n := by omega
      go_wp2
      go_ret
      rw [halfM_full HL.out] at hw
      exact ⟨rfl, hw, hg⟩

theorem laws_heldIntS (A : Option Addr) (n c : Nat) (k0 : Int) (w : World) (hr : Rd w w.heap.size A n ((Nc.marks k0 n).map (.int .i64))) (hk0 : 0 ≤ k0) (hk1 : k0 ≤ 1099511627776) (hn : n ≤ 1099511627776) :
    Calls Try.prog 19 #[.slice A n c, .int .i64 k0] w fun e w' => e = .returned (.int .i64 (k0 + n)) ∧ w = w' := by
  go_enter Try.func19, Try.ntmps19
  go_wp2
  go_loop [1, 5] (fun q i => ∃ j : Nat, j ≤ n ∧ i = .int .i64 j ∧ q = .int .i64 (k0 + j)) (fun _ i => n - (intOf i).toNat)
  case atStart => exact ⟨0, Nat.zero_le _, rfl, by simp⟩
  case round =>
    obtain ⟨j, hj, rfl, rfl⟩ := hrel
    by_cases hlt : j < n
    · obtain ⟨b, o, x, rfl, hbB, hx, hc⟩ := hr.int hlt
      rw [Nc.marks_at _ _ _ hlt] at hx
      obtain rfl : k0 + (j : Int) = x := by injection hx
      clear hx
      have hq : ((k0 + (j : Int)) != (k0 + (j : Int))) = false := by simp
      go_wp2
      go_round
      case rel => exact ⟨j + 1, by omega, by go_num, by go_num⟩
      case measure => simp [intOf]; omega
    · obtain rfl : j = n := by omega
      go_wp2
      go_ret
      exact ⟨rfl, rfl⟩

set_option maxHeartbeats 400000 in
theorem spec_UnitVector (wd ix : Int) (w : World) (hlo : -9223372036854775808 ≤ wd) :
    Calls Try.prog 52 #[.int .i64 wd, .int .i64 ix] w (Fresh 3 w ((Nc.unitL wd ix).map (.int .i64))) := by
  obtain ⟨i0, hi0, hz0, hz1, hz2⟩ := info_parts Try.info_int
  cases h1 : Nc.inB wd 0 40 <;> cases h2 : Nc.inB ix 0 (wd - 1)
  case true.true =>
    obtain ⟨b3, b4⟩ := Nc.inB_true h1
    obtain ⟨b5, b6⟩ := Nc.inB_true h2
    have HU := Lib.hid (show Nc.unitL wd ix = Nc.unitTo ix wd.toNat by simp [Nc.unitL, Nc.unitB, h1, h2])
    obtain ⟨n, hnn⟩ := Int.eq_ofNat_of_zero_le b3
    subst hnn
    go_enter Try.func52, Try.ntmps52
    go_wp2_with (go_at_call 60; refine (spec_l1In _ _ _ _).mono ?_; rintro e w' ⟨rfl, rfl⟩)
    go_loopw [5, 6] (fun v i wr => ∃ (k : Nat) (A : Option Addr) (c : Nat), k ≤ n ∧ i = .int .i64 k ∧ v = .slice A k c ∧ wr.ownsRow w.heap.size 3 1 (.slice A k c) k ((Nc.unitTo ix k).map (.int .i64)) ∧ Below w.heap.size w wr) (fun _ i _ => n - (intOf i).toNat)
    case atStart => exact ⟨0, _, _, Nat.zero_le _, rfl, rfl, World.ownsRow_lit w #[] 0 (Nat.le_refl _) (by decide) rfl, (Below.refl _ _).alloc (Nat.le_refl _) _⟩
    case round =>
      obtain ⟨k, A, c, hk, rfl, rfl, hown, hb⟩ := hrel
      have hsz := hb.size
      by_cases hlt : k < n
      · have hnx := Nc.unitTo_next ix k
        cases he : ((k : Int) == ix)
        · rw [if_neg (by simpa using he)] at hnx
          have HN := Lib.hid hnx
          clear hnx
          go_wp2_with (at_builtin; refine wpList_app1 _ rfl _ _ _ rfl w.heap.size 3 i0 _ 8 Try.underlying22 hi0 hz0 hz1 hz2 rfl A k c _ rfl hown (.int .i64 0) rfl _ rfl (by unfold maxLen; omega) (by omega) (by omega) ?_; intro A1 c1 w1 hown1 hb1)
          go_roundw
          case rel => exact ⟨k + 1, A1, c1, by omega, by go_num, rfl, by rw [HN.out, List.map_append]; exact hown1, hb.trans hb1⟩
          case measure => simp [intOf]; omega
        · rw [if_pos (by simpa using he)] at hnx
          have HN := Lib.hid hnx
          clear hnx
          go_wp2_with (at_builtin; refine wpList_app1 _ rfl _ _ _ rfl w.heap.size 3 i0 _ 8 Try.underlying22 hi0 hz0 hz1 hz2 rfl A k c _ rfl hown (.int .i64 1) rfl _ rfl (by unfold maxLen; omega) (by omega) (by omega) ?_; intro A1 c1 w1 hown1 hb1)
          go_roundw
          case rel => exact ⟨k + 1, A1, c1, by omega, by go_num, rfl, by rw [HN.out, List.map_append]; exact hown1, hb.trans hb1⟩
          case measure => simp [intOf]; omega
      · obtain rfl : k = n := by omega
        go_wp2
        go_ret
        exact ⟨_, _, _, rfl, by rw [HU.out]; exact Own.of hown (Nat.le_refl _), hb⟩
  all_goals
    have HU := Lib.hid (show Nc.unitL wd ix = [] by simp [Nc.unitL, Nc.unitB, h1, h2])
    try obtain ⟨b3, b4⟩ := Nc.inB_true h1
    go_enter Try.func52, Try.ntmps52
    go_wp2_with (go_at_call 60; refine (spec_l1In _ _ _ _).mono ?_; rintro e w' ⟨rfl, rfl⟩)
    go_ret
    exact ⟨_, _, _, rfl, by rw [HU.out]; exact Own.of (World.ownsRow_lit w #[] 0 (Nat.le_refl _) (by decide) rfl) (Nat.le_refl _), (Below.refl _ _).alloc (Nat.le_refl _) _⟩

set_option maxHeartbeats 400000 in
theorem impl_UnitVector (wd ix : Int) (w : World) (hlo : -9223372036854775808 ≤ wd) :
    Calls Try.prog 54 #[.int .i64 wd, .int .i64 ix] w (Fresh 3 w ((Nc.unitL wd ix).map (.int .i64))) := by
  obtain ⟨i0, hi0, hz0, hz1, hz2⟩ := info_parts Try.info_int
  cases h1 : Nc.inB wd 0 40 <;> cases h2 : Nc.inB ix 0 (wd - 1)
  case true.true =>
    obtain ⟨b3, b4⟩ := Nc.inB_true h1
    obtain ⟨b5, b6⟩ := Nc.inB_true h2
    have HU := Lib.hid (show Nc.unitL wd ix = Nc.unitTo ix wd.toNat by simp [Nc.unitL, Nc.unitB, h1, h2])
    obtain ⟨n, hnn⟩ := Int.eq_ofNat_of_zero_le b3
    subst hnn
    obtain ⟨j, hjj⟩ := Int.eq_ofNat_of_zero_le b5
    subst hjj
    have HS := Lib.hid (unit_set n j (by omega))
    go_enter Try.func54, Try.ntmps54
    go_wp2_with (first
      | (go_at_call 53; refine (impl_InRange _ _ _ _).mono ?_; rintro e w' ⟨rfl, rfl⟩)
      | (at_make; refine wpList_mk _ rfl _ _ _ rfl w.heap.size 3 i0 .i64 Try.underlying22 hi0 hz0 hz1 .i64 .i64 _ _ n rfl rfl rfl rfl (by rw [hz2]; omega) (by unfold maxLen; omega) (Nat.le_refl _) ?_; intro w1 hown1 hb1; have hcell := hown1.cellAt j (by omega); rw [List.getElem?_replicate, if_pos (by omega)] at hcell; have hfz := hown1.frozenAt j))
    go_ret
    have hst := (hown1.stored j (.int .i64 1)).1
    rw [HS.out] at hst
    exact ⟨_, _, _, rfl, by rw [HU.out]; exact Own.of hst (Nat.le_refl _), hb1.setCell (Nat.le_refl _) _⟩
  all_goals
    have HU := Lib.hid (show Nc.unitL wd ix = [] by simp [Nc.unitL, Nc.unitB, h1, h2])
    try obtain ⟨b3, b4⟩ := Nc.inB_true h1
    go_enter Try.func54, Try.ntmps54
    go_wp2_with (go_at_call 53; refine (impl_InRange _ _ _ _).mono ?_; rintro e w' ⟨rfl, rfl⟩)
    go_ret
    exact ⟨_, _, _, rfl, by rw [HU.out]; exact Own.of (World.ownsRow_nil _ _ _ _) (Nat.le_refl _), Below.refl _ _⟩

end Go.Proofs.Ytlcepceomlfnbaa
