/- The plain law of CeilDiv and Mod. No function of the program in sight. Conditions: stated with each theorem. -/
import Derived.Test.YtklgjhhlcpfkoaaDoorPlain
namespace Go.Proofs.YtklgjhhlcpfkoaaDoor
namespace Nc

theorem inB_no {x lo hi : Int} (h : x < lo ∨ hi < x) : inB x lo hi = false := by
  unfold inB; simp; omega
theorem inB_in {x lo hi : Int} (h0 : lo ≤ x) (h1 : x ≤ hi) : inB x lo hi = true := by
  unfold inB; simp; omega
theorem cd_none {a b : Int} (h : b < 1 ∨ 1000000000000 < b) : ceilDiv a b = 0 ∧ modI a b = 0 := by
  have := inB_no h
  simp [ceilDiv, modI, this]
theorem md_facts {a b : Int} (h0 : 1 ≤ b) (h1 : b ≤ 1000000000000) :
    0 ≤ modI a b ∧ modI a b < b ∧ (a.tmod b - modI a b).tmod b = 0 ∧ -1000000000000 < a.tmod b ∧ a.tmod b < 1000000000000 := by
  have hb := inB_in h0 h1
  have e : modI a b = a % b := by simp [modI, hb]
  have q := modI_bd (p := a) hb
  rw [e]
  refine ⟨Int.emod_nonneg _ (by omega), Int.emod_lt_of_pos _ (by omega), ?_, q.1, q.2⟩
  apply Int.tmod_eq_zero_of_dvd
  refine ⟨a / b - a.tdiv b, ?_⟩
  have e1 := Int.mul_tdiv_add_tmod a b
  have e2 := Int.mul_ediv_add_emod a b
  rw [Int.mul_sub]
  omega
theorem cd_out {a b : Int} (h : a < 0 ∨ 1000000000000 < a) : ceilDiv a b = 0 := by
  have := inB_no h
  simp [ceilDiv, this]
theorem cd_in {a b : Int} (h0 : 1 ≤ b) (h1 : b ≤ 1000000000000) (h2 : 0 ≤ a) (h3 : a ≤ 1000000000000) : a ≤ ceilDiv a b * b ∧ ceilDiv a b * b - a < b := by
  have e : ceilDiv a b = (a + b - 1) / b := by simp [ceilDiv, inB_in h0 h1, inB_in h2 h3]
  have e2 := Int.mul_ediv_add_emod (a + b - 1) b
  have e3 := Int.emod_nonneg (a + b - 1) (b := b) (by omega)
  have e4 := Int.emod_lt_of_pos (a + b - 1) (b := b) (by omega)
  rw [e, Int.mul_comm]
  omega
end Nc
end Go.Proofs.YtklgjhhlcpfkoaaDoor
