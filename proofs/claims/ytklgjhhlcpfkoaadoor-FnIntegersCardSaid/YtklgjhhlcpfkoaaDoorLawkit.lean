/- From what a row says of a slice that came in to the words of the walks. Conditions: stated with each theorem. -/
import Derived.Test.YtklgjhhlcpfkoaaDoorMem
import Derived.OpenShut
namespace Go.Proofs.YtklgjhhlcpfkoaaDoor
open Go.RowKit

/-- A slice of integers that came in reads as a list. -/
theorem rd_of_row {k : IntKind} {w : World} {a : Option Addr} {len cap : Nat} {zs : List Int}
    (h : (a = none ∧ len = 0 ∧ cap = 0 ∧ zs = []) ∨ ∃ x, a = some x ∧ len ≤ cap ∧ cap ≤ maxLen ∧ zs.length = cap ∧ (∀ i, i < zs.length → w.cell? (x.add i) = some (.int k (zs.getD i 0))) ∧ ∀ n ∈ zs, (Lit.int k n).wf = true) :
    ∃ xs : List Int, Rd w w.heap.size a len (xs.map (.int k)) ∧ (∀ x ∈ xs, (Lit.int k x).wf = true) ∧ len ≤ cap ∧ cap ≤ maxLen := by
  rcases h with ⟨rfl, rfl, rfl, rfl⟩ | ⟨x, rfl, hl, hm, hz, hc, hw⟩
  · exact ⟨[], Rd.nil, by simp, Nat.le_refl _, by unfold maxLen; omega⟩
  · refine ⟨zs.take len, ⟨by simp; omega, fun hp => ?_⟩, fun y hy => hw y (List.mem_of_mem_take hy), hl, hm⟩
    obtain ⟨b, off, rfl, hc'⟩ := ints_at hc (by omega)
    have h0 := hc' 0 (by omega)
    refine ⟨b, off, rfl, World.block_lt_of_cell? _ _ h0, fun j u hu => ?_⟩
    have hj : j < (zs.take len).length := by
      have := (List.getElem?_eq_some_iff.1 hu).1
      simpa using this
    have hj' : j < len ∧ j < zs.length := by simp at hj; omega
    rw [hc' j hj'.2]
    rw [List.getElem?_map, List.getElem?_take, if_pos hj'.1, List.getElem?_eq_getElem hj'.2] at hu
    simp only [Option.map_some, Option.some.injEq] at hu
    rw [← hu, List.getD_eq_getElem?_getD, List.getElem?_eq_getElem hj'.2]
    rfl

theorem Rd.grown {w w' : World} {B n : Nat} {A : Option Addr} {xs : List Value} {row : Option Nat} (h : Rd w B A n xs) (hg : w.grownBy w' row) (hB : B ≤ w.heap.size) (hr : ∀ g, row = some g → B ≤ g) : Rd w' B A n xs :=
  h.keep fun p hp => World.cell?_of_block (hg.block p.block (by omega) (fun e => by have := hr _ e.symm; omega))

theorem Own.capmax {w : World} {lo hi : Nat} {e : TypeId} {A : Option Addr} {n c : Nat} {xs : List Value} (h : Own w lo hi e A n c xs) : c ≤ 9223372036854775807 := by
  rcases h.1.2 with ⟨hv, h0⟩ | ⟨g, cap, cur, hv, hg, hh, hc, hm, r⟩
  · injection hv with _ _ h3; omega
  · injection hv with _ _ h3; unfold maxLen at hm; omega

end Go.Proofs.YtklgjhhlcpfkoaaDoor
