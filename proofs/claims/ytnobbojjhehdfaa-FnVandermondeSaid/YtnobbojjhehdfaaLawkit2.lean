/- From what a row says of a slice of slices that came in to the words of the walks. Conditions: stated with each theorem. -/
import Derived.Test.YtnobbojjhehdfaaLawkit
import Derived.Test.YtnobbojjhehdfaaMatMem
import Derived.Deep.Matrix
namespace Go.Proofs.Ytnobbojjhehdfaa
open Go.RowKit
set_option maxRecDepth 100000

/-- What the walk is told of a slice of slices of integers that came in. -/
def IsMat (w : World) (a : Option Addr) (len cap : Nat) (rows : List (List Int)) : Prop :=
  RdM w w.heap.size a len rows ∧ len ≤ cap ∧ cap ≤ 9223372036854775807 ∧ ∀ xs ∈ rows, ∀ x ∈ xs, (Lit.int .i64 x).wf = true

theorem rd_take {k : IntKind} {w : World} {a : Option Addr} {len cap : Nat} {zs : List Int} (h0 : a = none → cap = 0) (hl : len ≤ cap) (hz : zs.length = cap)
    (hc : ∀ a', a = some a' → ∀ c, c < cap → w.cell? (a'.add c) = some (.int k (zs.getD c 0))) : Rd w w.heap.size a len ((zs.take len).map (.int k)) := by
  refine ⟨by simp; omega, fun hp => ?_⟩
  cases a with
  | none => have := h0 rfl; omega
  | some x =>
    have hc1 : ∀ i, i < zs.length → w.cell? (x.add i) = some (.int k (zs.getD i 0)) := fun i hi => hc x rfl i (by omega)
    obtain ⟨b, off, rfl, hc'⟩ := ints_at hc1 (by omega)
    have h0 := hc' 0 (by omega)
    refine ⟨b, off, rfl, World.block_lt_of_cell? _ _ h0, fun j u hu => ?_⟩
    have hj : j < (zs.take len).length := by
      have := (List.getElem?_eq_some_iff.1 hu).1
      simpa using this
    have hj' : j < len ∧ j < zs.length := by simp at hj; omega
    rw [hc' j hj'.2]
    rw [List.getElem?_map, List.getElem?_take, if_pos hj'.1, List.getElem?_eq_getElem hj'.2] at hu
    simp only [Option.map_some, Option.some.injEq] at hu
    rw [← hu, List.getD_eq_getElem?_getD, List.getElem?_eq_getElem hj'.2]
    rfl

theorem isMat_nil (w : World) : IsMat w none 0 0 [] := ⟨RdM.nil, Nat.le_refl _, by omega, by simp⟩

theorem isMat_of {w : World} {a : Addr} {len cap : Nat} {A : Nat → Option Addr} {L C : Nat → Nat} {Z : Nat → List Int} {base : Nat} (hl : len ≤ cap) (hm : cap ≤ maxLen)
    (h : ∀ r, r < cap → w.cell? (a.add r) = some (.slice (A r) (L r) (C r)) ∧ L r ≤ C r ∧ C r ≤ maxLen ∧ (Z r).length = C r ∧ (∀ n ∈ Z r, (Lit.int .i64 n).wf = true) ∧ (A r = none → C r = 0) ∧
        ∀ a', A r = some a' → base ≤ a'.block ∧ ∀ c, c < C r → w.cell? (a'.add c) = some (.int .i64 ((Z r).getD c 0))) :
    IsMat w (some a) len cap ((List.range len).map fun r => (Z r).take (L r)) := by
  refine ⟨⟨(List.range len).map fun r => .slice (A r) (L r) (C r), ⟨by simp, fun hp => ?_⟩, by simp, fun j v xs hv hx => ?_⟩, hl, by unfold maxLen at hm; omega, fun xs hxs x hx => ?_⟩
  · obtain ⟨b, off, spot⟩ := a
    have hspot : spot = none := by simpa [Addr.add] using World.cell?_spot (h 0 (by omega)).1
    subst hspot
    refine ⟨b, off, rfl, ?_, fun j u hu => ?_⟩
    · have := (h 0 (by omega)).1
      rw [Addr.add_lit] at this
      exact World.block_lt_of_cell? _ _ this
    · have hj : j < len := by
        have := (List.getElem?_eq_some_iff.1 hu).1
        simpa using this
      rw [List.getElem?_map, List.getElem?_range hj] at hu
      simp only [Option.map_some, Option.some.injEq] at hu
      have := (h j (by omega)).1
      rw [Addr.add_lit] at this
      rw [this, hu]
  · have hj : j < len := by
      have := (List.getElem?_eq_some_iff.1 hv).1
      simpa using this
    rw [List.getElem?_map, List.getElem?_range hj] at hv hx
    simp only [Option.map_some, Option.some.injEq] at hv hx
    obtain ⟨_, h2, h3, h4, _, h6, h7⟩ := h j (by omega)
    subst hv hx
    exact ⟨_, _, _, rfl, h2, by unfold maxLen at h3; omega, rd_take h6 h2 h4 (fun a' ha' => (h7 a' ha').2)⟩
  · obtain ⟨r, hr, rfl⟩ := List.mem_map.1 hxs
    have hr' : r < len := List.mem_range.1 hr
    exact (h r (by omega)).2.2.2.2.1 x (List.mem_of_mem_take hx)

end Go.Proofs.Ytnobbojjhehdfaa
