/- Contracts of the identity matrices. Conditions: stated with each theorem. -/
import Derived.Test.YtnobbojjhehdfaaMtx
import Derived.Test.YtnobbojjhehdfaaMatMem2
namespace Go.Proofs.Ytnobbojjhehdfaa
open Go.RowKit
set_option maxRecDepth 100000

theorem OwnM.nil {eI eS : TypeId} {w : World} {lo hi : Nat} (hh : w.heap.size ≤ hi) : OwnM eI eS w lo hi none 0 0 [] :=
  ⟨[], Own.of (World.ownsRow_nil _ _ _ _) hh, rfl, fun j r xs hr => by simp at hr, fun i j r s _ hr => by simp at hr⟩
theorem OwnM.lit {eI eS : TypeId} {w : World} {lo hi : Nat} (hl : lo ≤ w.heap.size) (hh : w.heap.size + 1 ≤ hi) : OwnM eI eS (w.alloc (.cells #[] eS)) lo hi (some ⟨w.heap.size, 0, none⟩) 0 0 [] :=
  ⟨[], Own.of (World.ownsRow_lit w #[] 0 hl (by decide) rfl) (by simpa using hh), rfl, fun j r xs hr => by simp at hr, fun i j r s _ hr => by simp at hr⟩
/-- The first k rows of the identity. -/
def Nc.idTo (n k : Nat) : List (List Int) := (List.range k).map fun i : Nat => Nc.unitTo (i : Int) n
def Nc.idL (n : Int) : List (List Int) := if Nc.inB n 0 40 then Nc.idTo n.toNat n.toNat else []
theorem Nc.idTo_next (n k : Nat) : Nc.idTo n (k + 1) = Nc.idTo n k ++ [Nc.unitTo (k : Int) n] := by simp [Nc.idTo, List.range_succ]
theorem Nc.idL_len (n : Int) : (Nc.idL n).length ≤ 40 := by
  unfold Nc.idL
  split
  · rename_i h
    have := Nc.inB_true h
    simp [Nc.idTo]; omega
  · simp
theorem Nc.idL_row (n : Int) : ∀ r ∈ Nc.idL n, r.length ≤ 40 := by
  unfold Nc.idL
  split
  · rename_i h
    have := Nc.inB_true h
    intro r hr
    obtain ⟨i, _, rfl⟩ := List.mem_map.1 hr
    rw [Nc.unitTo_len]; omega
  · simp
theorem cells_le {rows : List (List Int)} {a b : Nat} (h1 : rows.length ≤ a) (h2 : ∀ r ∈ rows, r.length ≤ b) : Nc.cells rows ≤ a * b := by
  have : ∀ l : List (List Int), (∀ r ∈ l, r.length ≤ b) → (l.map List.length).sum ≤ l.length * b := by
    intro l
    induction l with
    | nil => intro _; simp
    | cons r l ih =>
      intro h
      have e1 := h r (by simp)
      have e2 := ih (fun r hr => h r (by simp [hr]))
      simp only [List.map_cons, List.sum_cons, List.length_cons, Nat.add_mul, Nat.one_mul]; omega
  exact Nat.le_trans (this rows h2) (Nat.mul_le_mul_right b h1)

set_option maxHeartbeats 1000000 in
theorem impl_Identity (n : Int) (w : World) :
    Calls Try.prog 21 #[.int .i64 n] w (FreshM 3 30 w (Nc.idL n)) := by
  obtain ⟨i0, hi0, hz0, hz1, hz2⟩ := info_parts Try.info_row
  cases h1 : Nc.inB n 0 40
  · have HE := Lib.hid (show Nc.idL n = [] by simp [Nc.idL, h1])
    go_enter Try.func21, Try.ntmps21
    go_wp2_with (go_at_call 86; refine (impl_InRange _ _ _ _).mono ?_; rintro e w' ⟨rfl, rfl⟩)
    go_ret
    exact ⟨_, _, _, rfl, by rw [HE.out]; exact OwnM.nil (Nat.le_refl _), Below.refl _ _⟩
  · obtain ⟨b3, b4⟩ := Nc.inB_true h1
    have HE := Lib.hid (show Nc.idL n = Nc.idTo n.toNat n.toNat by simp [Nc.idL, h1])
    obtain ⟨m, hmm⟩ := Int.eq_ofNat_of_zero_le b3
    subst hmm
    go_enter Try.func21, Try.ntmps21
    go_wp2_with (go_at_call 86; refine (impl_InRange _ _ _ _).mono ?_; rintro e w' ⟨rfl, rfl⟩)
    go_loopw [3, 9] (fun v i wr => ∃ (k : Nat) (A : Option Addr) (c : Nat), k ≤ m ∧ i = .int .i64 k ∧ v = .slice A k c ∧ OwnM 3 30 wr w.heap.size wr.heap.size A k c (Nc.idTo m k) ∧ Below w.heap.size w wr) (fun _ i _ => m - (intOf i).toNat)
    case atStart => exact ⟨0, _, _, Nat.zero_le _, rfl, rfl, OwnM.nil (Nat.le_refl _), Below.refl _ _⟩
    case round =>
      obtain ⟨k, A, c, hk, rfl, rfl, hown, hb⟩ := hrel
      have hsz := hb.size
      by_cases hlt : k < m
      · have HN := Lib.hid (Nc.idTo_next m k)
        have HU := Lib.hid (show Nc.unitL (m : Int) (k : Int) = Nc.unitTo (k : Int) m by
          unfold Nc.unitL Nc.unitB; rw [Nc.inB_of b3 b4, Nc.inB_of (show (0 : Int) ≤ k by omega) (show (k : Int) ≤ m - 1 by omega)]; simp)
        go_wp2_with fail
        refine (impl_UnitVector _ _ _ (by omega)).mono ?_
        rintro e w2 ⟨A2, n2, c2, rfl, ho2, hb2⟩
        rw [HU.out] at ho2
        have hs2 := hb2.size
        have hown2 := hown.below hb2 (Nat.le_refl _)
        have hb3 := hb.trans (hb2.mono hsz)
        have hs3 := hb3.size
        go_wp2_with (first | (at_builtin; refine wpList_appRow _ rfl _ _ _ rfl 3 30 (by decide) i0 _ 24 Try.underlying24 hi0 hz0 hz1 hz2 rfl w.heap.size wr.heap.size wr.heap.size w2.heap.size A k c _ rfl hown2 A2 n2 c2 _ ho2 hsz (Nat.le_refl _) (Nat.le_refl _) _ rfl (by unfold maxLen; omega) (by omega) hs3 hs2 ?_; intro A3 c3 w3 hown3 hb4) | fail)
        go_roundw
        case rel => exact ⟨k + 1, A3, c3, by omega, by go_num, rfl, by rw [HN.out]; exact hown3, hb3.trans hb4⟩
        case measure => simp [intOf]; omega
      · obtain rfl : k = m := by omega
        go_wp2_with fail
        go_ret
        exact ⟨_, _, _, rfl, by rw [HE.out]; exact hown, hb⟩

end Go.Proofs.Ytnobbojjhehdfaa
