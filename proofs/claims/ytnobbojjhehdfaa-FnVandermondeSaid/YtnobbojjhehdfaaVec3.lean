/- Contracts of the functions that make or write slices: unit vectors, bytes as integers, marks. Conditions: stated with each theorem. -/
import Derived.Test.YtnobbojjhehdfaaVec2
namespace Go.Proofs.Ytnobbojjhehdfaa
open Go.RowKit
set_option maxRecDepth 100000

theorem Try.info_int : (Try.prog.info? 3).map (fun i => (i.zero, i.size, i.bytes)) = some (some (.int .i64 0), 1, 8) := by kernel_rfl

/-- The first j elements are the marks, the others are as they were. -/
def halfM (f : Int → Nat → List Int) (kd : IntKind) (xs : List Value) (k : Int) (j : Nat) : List Value := (f k j).map (.int kd) ++ xs.drop j
theorem halfM_at {f : Int → Nat → List Int} (hf : ∀ k n, (f k n).length = n) {kd : IntKind} {xs : List Value} {k : Int} {j : Nat} {u : Value} (h : xs[j]? = some u) : (halfM f kd xs k j)[j]? = some u := by
  unfold halfM
  rw [List.getElem?_append_right (by simp [hf]), List.length_map, hf, Nat.sub_self, List.getElem?_drop, Nat.add_zero, h]
theorem halfM_next {f : Int → Nat → List Int} (hf : ∀ k n, (f k n).length = n) {kd : IntKind} {xs : List Value} {k x : Int} {j : Nat} (hj : j < xs.length) (hx : f k (j + 1) = f k j ++ [x]) :
    (halfM f kd xs k j).set j (.int kd x) = halfM f kd xs k (j + 1) := by
  unfold halfM
  rw [List.set_append, if_neg (by simp [hf]), List.length_map, hf, Nat.sub_self, List.drop_eq_getElem_cons hj, List.set_cons_zero, hx]
  simp
theorem halfM_full {f : Int → Nat → List Int} {kd : IntKind} {xs : List Value} {k : Int} {n : Nat} (h : xs.length = n) : halfM f kd xs k n = (f k n).map (.int kd) := by
  unfold halfM; rw [List.drop_of_length_le (by omega), List.append_nil]
theorem halfM_zero {f : Int → Nat → List Int} (hf : ∀ k n, (f k n).length = n) {kd : IntKind} {xs : List Value} {k : Int} : halfM f kd xs k 0 = xs := by
  unfold halfM; rw [List.eq_nil_of_length_eq_zero (hf k 0)]; simp
theorem marks_next (k : Int) (n : Nat) : Nc.marks k (n + 1) = Nc.marks k n ++ [k + n] := by simp [Nc.marks, List.range_succ]
theorem marks8_next (k : Int) (n : Nat) : Nc.marks8 k (n + 1) = Nc.marks8 k n ++ [(k + n) % 256] := by simp [Nc.marks8, List.range_succ]

theorem unit_set (n j : Nat) (h : j < n) : (List.replicate n (Value.int .i64 0)).set j (.int .i64 1) = (Nc.unitTo (j : Int) n).map (.int .i64) := by
  apply List.ext_getElem?
  intro i
  rw [List.getElem?_set, List.getElem?_map, Nc.unitTo, List.getElem?_map]
  by_cases hi : i < n
  · by_cases hij : j = i
    · subst hij; simp [hi]
    · have : ¬ ((i : Int) = j) := by omega
      simp [hij, hi, this]
  · have h1 : ¬ j = i := by omega
    simp [hi, h1]

set_option maxHeartbeats 400000 in
theorem impl_UnitVector (wd ix : Int) (w : World) (hlo : -9223372036854775808 ≤ wd) :
    Calls Try.prog 61 #[.int .i64 wd, .int .i64 ix] w (Fresh 3 w ((Nc.unitL wd ix).map (.int .i64))) := by
  obtain ⟨i0, hi0, hz0, hz1, hz2⟩ := info_parts Try.info_int
  cases h1 : Nc.inB wd 0 40 <;> cases h2 : Nc.inB ix 0 (wd - 1)
  case true.true =>
    obtain ⟨b3, b4⟩ := Nc.inB_true h1
    obtain ⟨b5, b6⟩ := Nc.inB_true h2
    have HU := Lib.hid (show Nc.unitL wd ix = Nc.unitTo ix wd.toNat by simp [Nc.unitL, Nc.unitB, h1, h2])
    obtain ⟨n, hnn⟩ := Int.eq_ofNat_of_zero_le b3
    subst hnn
    obtain ⟨j, hjj⟩ := Int.eq_ofNat_of_zero_le b5
    subst hjj
    have HS := Lib.hid (unit_set n j (by omega))
    go_enter Try.func61, Try.ntmps61
    go_wp2_with (first
      | (go_at_call 86; refine (impl_InRange _ _ _ _).mono ?_; rintro e w' ⟨rfl, rfl⟩)
      | (at_make; refine wpList_mk _ rfl _ _ _ rfl w.heap.size 3 i0 .i64 Try.underlying30 hi0 hz0 hz1 .i64 .i64 _ _ n rfl rfl rfl rfl (by rw [hz2]; omega) (by unfold maxLen; omega) (Nat.le_refl _) ?_; intro w1 hown1 hb1; have hcell := hown1.cellAt j (by omega); rw [List.getElem?_replicate, if_pos (by omega)] at hcell; have hfz := hown1.frozenAt j))
    go_ret
    have hst := (hown1.stored j (.int .i64 1)).1
    rw [HS.out] at hst
    exact ⟨_, _, _, rfl, by rw [HU.out]; exact Own.of hst (Nat.le_refl _), hb1.setCell (Nat.le_refl _) _⟩
  all_goals
    have HU := Lib.hid (show Nc.unitL wd ix = [] by simp [Nc.unitL, Nc.unitB, h1, h2])
    try obtain ⟨b3, b4⟩ := Nc.inB_true h1
    go_enter Try.func61, Try.ntmps61
    go_wp2_with (go_at_call 86; refine (impl_InRange _ _ _ _).mono ?_; rintro e w' ⟨rfl, rfl⟩)
    go_ret
    exact ⟨_, _, _, rfl, by rw [HU.out]; exact Own.of (World.ownsRow_nil _ _ _ _) (Nat.le_refl _), Below.refl _ _⟩

set_option maxHeartbeats 400000 in
theorem impl_BytesToInts (A : Option Addr) (n c : Nat) (zs : List Int) (w : World) (hr : Rd w w.heap.size A n (zs.map (.int .u8))) (hz : ∀ x ∈ zs, 0 ≤ x ∧ x ≤ 255) (hn : n ≤ 1048576) :
    Calls Try.prog 104 #[.slice A n c] w (Fresh 3 w (((zs.length : Int) :: zs).map (.int .i64))) := by
  rw [hr.ilen]
  obtain ⟨i0, hi0, hz0, hz1, hz2⟩ := info_parts Try.info_int
  have HZ := Lib.hid hr.ilen
  have HB := Lib.hid hz
  clear hz
  go_enter Try.func104, Try.ntmps104
  go_wp2
  go_loopw [3, 11] (fun v i wr => ∃ (k : Nat) (A1 : Option Addr) (c1 : Nat), k ≤ n ∧ i = .int .i64 k ∧ v = .slice A1 (k + 1) c1 ∧ wr.ownsRow w.heap.size 3 1 (.slice A1 (k + 1) c1) (k + 1) (((n : Int) :: zs.take k).map (.int .i64)) ∧ Below w.heap.size w wr) (fun _ i _ => n - (intOf i).toNat)
  case atStart => exact ⟨0, _, _, Nat.zero_le _, rfl, rfl, World.ownsRow_lit w #[.int .i64 n] 1 (Nat.le_refl _) (by decide) rfl, (Below.refl _ _).alloc (Nat.le_refl _) _⟩
  case round =>
    obtain ⟨k, A1, c1, hk, rfl, rfl, hown, hb⟩ := hrel
    have hsz := hb.size
    by_cases hlt : k < n
    · obtain ⟨b, o, x, rfl, hbB, hx, hc⟩ := (hr.below hb (Nat.le_refl _)).int hlt
      obtain ⟨x0, x1⟩ := HB.out x (List.mem_of_getElem? hx)
      have HN := Lib.hid (take_next hx)
      clear hx
      go_wp2_with (at_builtin; refine wpList_app1 _ rfl _ _ _ rfl w.heap.size 3 i0 _ 8 Try.underlying30 hi0 hz0 hz1 hz2 rfl A1 (k + 1) c1 _ rfl hown (.int .i64 x) rfl _ rfl (by unfold maxLen; omega) (by omega) (by omega) ?_; intro A2 c2 w1 hown1 hb1)
      go_roundw
      case rel => exact ⟨k + 1, A2, c2, by omega, by go_num, rfl, by rw [HN.out, ← List.cons_append, List.map_append]; exact hown1, hb.trans hb1⟩
      case measure => simp [intOf]; omega
    · obtain rfl : k = n := by omega
      go_wp2
      go_ret
      rw [List.take_of_length_le (by rw [HZ.out]; exact Nat.le_refl _)] at hown
      exact ⟨_, _, _, rfl, Own.of hown (Nat.le_refl _), hb⟩

end Go.Proofs.Ytnobbojjhehdfaa
