/- The decimal numeral and its value: plain laws. No function of the program in sight. Conditions: stated with each theorem. -/
import Derived.Lib.ItoaMem
import Derived.Lib.AtoiAllCases
import Derived.Lib.AtoiTie
namespace Go.Proofs.YtklgjhhlcpfkoaaDoor
namespace Nc
open Go.Lib

theorem decFrom_snoc {l : List UInt8} {b : UInt8} {acc n d : Nat} (h : decFrom acc l = some n) (hd : digitVal b = some d) : decFrom acc (l ++ [b]) = some (n * 10 + d) := by
  have := Lib.decFrom_take (l ++ [b]) l.length acc n b d (by simpa using h) (by simp) hd
  rwa [List.take_of_length_le (by simp)] at this
theorem dig {d : Nat} (h : d < 10) : digitVal (UInt8.ofNat (48 + d)) = some d := by
  have e : (UInt8.ofNat (48 + d)).toNat = 48 + d := by rw [UInt8.toNat_ofNat']; omega
  unfold digitVal; rw [e, if_pos (by omega)]; congr 1; omega
theorem decFrom_digits (u : Nat) : decFrom 0 (decDigits u) = some u := by
  induction u using Nat.strongRecOn with
  | _ u ih =>
    by_cases h : u < 10
    · rw [decDigits, dif_pos h]
      have := decFrom_snoc (l := []) (acc := 0) (n := 0) rfl (dig h)
      simpa using this
    · rw [decDigits, dif_neg h, decFrom_snoc (ih _ (by omega)) (dig (by omega))]
      congr 1; omega
theorem nDigits_le : ∀ (k u : Nat), u < 10 ^ (k + 1) → nDigits u ≤ k + 1
  | 0, u, h => by rw [nDigits_small (by simpa using h)]; omega
  | k + 1, u, h => by
    by_cases h1 : u < 10
    · rw [nDigits_small h1]; omega
    · rw [nDigits_big h1]
      have := nDigits_le k (u / 10) (by rw [Nat.pow_succ] at h; omega)
      omega
theorem digits_len {u : Nat} (h : u ≤ 1000000000000) : 1 ≤ (decDigits u).length ∧ (decDigits u).length ≤ 13 := by
  rw [decDigits_length]
  exact ⟨nDigits_pos u, nDigits_le 12 u (Nat.lt_of_le_of_lt h (by decide))⟩
theorem atoi_digits (u : Nat) : atoi (decDigits u) = some (u : Int) := by
  have h0 := decFrom_digits u
  cases hd : decDigits u with
  | nil =>
    have := nDigits_pos u
    rw [← decDigits_length, hd] at this
    simp at this
  | cons b r =>
    rw [hd] at h0
    obtain ⟨d, hb⟩ := digit_of_decFrom _ _ _ h0 0 b (by simp)
    obtain ⟨b0, b1, _⟩ := digitVal_eq hb
    have n45 : (b == 45) = false := by
      cases e : (b == 45)
      · rfl
      · rw [beq_iff_eq] at e; subst e; simp at b0
    have n43 : (b == 43) = false := by
      cases e : (b == 43)
      · rfl
      · rw [beq_iff_eq] at e; subst e; simp at b0
    simp only [atoi, n45, n43, Bool.false_eq_true, if_false, decNat, List.isEmpty_cons, h0, Option.map_some]
theorem atoiAll_digits {u : Nat} (h : u ≤ 1000000000000) : atoiAll (decDigits u) = .ok (u : Int) := by
  rw [atoiAll_short _ (by have := (digits_len h).2; omega), atoi_digits]; rfl

/-- What ParseInt answers. -/
def parseV (l : List UInt8) : Int × Bool :=
  match decFrom 0 l with
  | some n => if n ≤ 1000000000000 ∧ decDigits n = l then ((n : Int), true) else (0, false)
  | none => (0, false)
theorem parse_yes {u : Nat} (h : u ≤ 1000000000000) : parseV (decDigits u) = ((u : Int), true) := by
  unfold parseV; rw [decFrom_digits]; simp [h]
theorem parse_no {l : List UInt8} (h : ∀ u : Nat, u ≤ 1000000000000 → l ≠ decDigits u) : parseV l = (0, false) := by
  unfold parseV
  cases hd : decFrom 0 l with
  | none => rfl
  | some n =>
    simp only
    rw [if_neg]
    rintro ⟨h1, h2⟩
    exact h n h1 h2.symm
theorem parse_len {l : List UInt8} (h : l.length < 1 ∨ 13 < l.length) : parseV l = (0, false) :=
  parse_no fun u hu e => by have := digits_len hu; rw [← e] at this; omega
theorem parse_dig {l : List UInt8} {k : Nat} {b : UInt8} (hb : l[k]? = some b) (h : b.toNat < 48 ∨ 57 < b.toNat) : parseV l = (0, false) :=
  parse_no fun u hu e => by
    have h0 := decFrom_digits u
    rw [← e] at h0
    obtain ⟨d, hd⟩ := digit_of_decFrom _ _ _ h0 k b hb
    have := digitVal_eq hd
    omega
theorem parse_great {l : List UInt8} {n : Nat} (hn : decFrom 0 l = some n) (h : 1000000000000 < n) : parseV l = (0, false) :=
  parse_no fun u hu e => by
    have h0 := decFrom_digits u
    rw [← e, hn] at h0
    injection h0 with h0
    omega
theorem parse_other {l : List UInt8} {n : Nat} (hn : decFrom 0 l = some n) (h : l ≠ decDigits n) : parseV l = (0, false) :=
  parse_no fun u hu e => by
    have h0 := decFrom_digits u
    rw [← e, hn] at h0
    injection h0 with h0
    subst h0
    exact h e
theorem parse_fail {l : List UInt8} (h : ∀ v, atoiAll l ≠ .ok v) : parseV l = (0, false) :=
  parse_no fun u hu e => by rw [e] at h; exact h _ (atoiAll_digits hu)
theorem parse_out {l : List UInt8} {v : Int} (hv : atoiAll l = .ok v) (h : v < 0 ∨ 1000000000000 < v) : parseV l = (0, false) :=
  parse_no fun u hu e => by
    rw [e, atoiAll_digits hu] at hv
    injection hv with hv
    omega
theorem parse_unlike {l : List UInt8} {v : Int} (hv : atoiAll l = .ok v) (h : itoa v ≠ l) : parseV l = (0, false) :=
  parse_no fun u hu e => by
    rw [e, atoiAll_digits hu] at hv
    injection hv with hv
    subst hv
    rw [itoa_nonneg] at h
    exact h e.symm
theorem parse_like {l : List UInt8} {v : Int} (h0 : 0 ≤ v) (h1 : v ≤ 1000000000000) (h : itoa v = l) : parseV l = (v, true) := by
  obtain ⟨u, rfl⟩ := Int.eq_ofNat_of_zero_le h0
  rw [itoa_nonneg] at h
  subst h
  exact parse_yes (by omega)
/-- A number in range is parsed back; of no other number's numeral is anything parsed. -/
theorem parse_itoa (m : Int) : parseV (itoa m) = if 0 ≤ m ∧ m ≤ 1000000000000 then (m, true) else (0, false) := by
  by_cases h : 0 ≤ m ∧ m ≤ 1000000000000
  · rw [if_pos h]; exact parse_like h.1 h.2 rfl
  · rw [if_neg h]
    by_cases h0 : 0 ≤ m
    · obtain ⟨u, rfl⟩ := Int.eq_ofNat_of_zero_le h0
      rw [itoa_nonneg]
      exact parse_great (decFrom_digits u) (by omega)
    · obtain ⟨u, hu⟩ := Int.eq_ofNat_of_zero_le (a := -m) (by omega)
      obtain rfl : m = -(u : Int) := by omega
      rw [itoa_neg u (by omega)]
      exact parse_dig (k := 0) (b := 45) (by simp) (by decide)
/-- What is parsed is formatted back. -/
theorem parse_back {l : List UInt8} (h : (parseV l).2 = true) : itoa (parseV l).1 = l := by
  unfold parseV at h ⊢
  cases hd : decFrom 0 l with
  | none => rw [hd] at h; simp at h
  | some n =>
    rw [hd] at h
    simp only at h ⊢
    split
    · rename_i q; rw [itoa_nonneg]; exact q.2
    · rename_i q; rw [if_neg q] at h; simp at h
theorem parse_bd (l : List UInt8) : 0 ≤ (parseV l).1 ∧ (parseV l).1 ≤ 1000000000000 := by
  unfold parseV
  cases hd : decFrom 0 l with
  | none => simp
  | some n =>
    simp only
    split
    · rename_i q; simp only; omega
    · simp

/-- The digits ahead of those that the loop has laid. -/
def pre (u : Nat) : List UInt8 := if u = 0 then [] else decDigits u
theorem pre_step {u : Nat} (h : u ≠ 0) (l : List UInt8) : pre u ++ l = pre (u / 10) ++ (UInt8.ofNat (48 + u % 10) :: l) := by
  unfold pre
  rw [if_neg h]
  by_cases h1 : u < 10
  · rw [if_pos (by omega), decDigits, dif_pos h1, Nat.mod_eq_of_lt h1]; rfl
  · rw [if_neg (by omega), decDigits, dif_neg h1]; simp
theorem tmod_abs (x : Int) : (x.tmod 10).natAbs = x.natAbs % 10 := by
  rw [Int.natAbs_tmod]; rfl
theorem tdiv_abs (x : Int) : (x.tdiv 10).natAbs = x.natAbs / 10 := by
  rw [Int.natAbs_tdiv]; rfl
theorem itoa_end {n : Int} {l : List UInt8} (h : decDigits n.natAbs = pre 0 ++ l) : itoa n = if n < 0 then 45 :: l else l := by
  have : decDigits n.natAbs = l := by simpa [pre] using h
  unfold itoa
  split
  · rw [this]
  · rw [← this]; congr 1; omega
end Nc
end Go.Proofs.YtklgjhhlcpfkoaaDoor
