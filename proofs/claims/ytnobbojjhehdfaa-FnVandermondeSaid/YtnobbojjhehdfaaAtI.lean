/- Small helps of the laws over drawn inputs. Conditions: stated with each theorem. -/
import Derived.Test.YtnobbojjhehdfaaDraw2
import Derived.Test.YtnobbojjhehdfaaPlainF
namespace Go.Proofs.Ytnobbojjhehdfaa
open Go.RowKit
set_option maxRecDepth 100000

theorem Nc.encL_byte (zs : List Int) : ∀ {b : List Int}, (∀ x ∈ b, 0 ≤ x ∧ x ≤ 255) → ∀ x ∈ Nc.encL b zs, 0 ≤ x ∧ x ≤ 255 := by
  induction zs with
  | nil => intro b hb; exact hb
  | cons z zs ih => intro b hb; exact ih (Nc.encU_byte hb)
theorem Nc.bytes_append {a b : List Int} (ha : ∀ x ∈ a, 0 ≤ x ∧ x ≤ 255) (hb : ∀ x ∈ b, 0 ≤ x ∧ x ≤ 255) : ∀ x ∈ a ++ b, 0 ≤ x ∧ x ≤ 255 := by
  intro x hx
  rcases List.mem_append.1 hx with hx | hx
  · exact ha x hx
  · exact hb x hx
theorem laws_atI (A : Option Addr) (n c : Nat) (xs : List Int) (i : Nat) (j : Int) (w : World) (hj : j = (i : Int)) (hr : Rd w w.heap.size A n (xs.map (.int .u8))) (hz : ∀ x ∈ xs, 0 ≤ x ∧ x ≤ 255) (hn : n ≤ 1048576) (hi : i ≤ 1000000) :
    Calls Try.prog 18 #[.slice A n c, .int .i64 j] w fun e w' => e = .returned (.int .i64 (Nc.atV xs i)) ∧ w = w' := by
  subst hj; exact laws_at A n c xs i w hr hz hn hi
end Go.Proofs.Ytnobbojjhehdfaa
