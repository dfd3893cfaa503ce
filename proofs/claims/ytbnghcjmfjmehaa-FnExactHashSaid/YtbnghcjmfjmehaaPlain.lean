/- The plain functions that the Go functions compute: integers, the prime field, the group. No program in sight. Conditions: none. -/
import Derived.KernelRfl
namespace Go.Proofs.Ytbnghcjmfjmehaa.Nc

/-- lo ≤ n and n ≤ hi. -/
def inB (n lo hi : Int) : Bool := decide (lo ≤ n ∧ n ≤ hi)
theorem inB_true {n lo hi : Int} (h : inB n lo hi = true) : lo ≤ n ∧ n ≤ hi := by simpa [inB] using h
theorem inB_false {n lo hi : Int} (h : inB n lo hi = false) : ¬ (lo ≤ n ∧ n ≤ hi) := by simpa [inB] using h
theorem inB_of {n lo hi : Int} (h1 : lo ≤ n) (h2 : n ≤ hi) : inB n lo hi = true := by simp [inB, h1, h2]
theorem inB_not {n lo hi : Int} (h : ¬ (lo ≤ n ∧ n ≤ hi)) : inB n lo hi = false := by simp only [inB, decide_eq_false_iff_not]; exact h

def maxI (a b : Int) : Int := if a < b then b else a
def minI (a b : Int) : Int := if b < a then b else a

def ceilDiv (a b : Int) : Int := if inB a 0 1000000000000 && inB b 1 1000000000000 then (a + b - 1) / b else 0
/-- The Go functions Mod: the remainder that is not negative. -/
def modI (p q : Int) : Int := if inB q 1 1000000000000 then p % q else 0
theorem modI_yes {p q : Int} (h : inB q 1 1000000000000 = true) : (p.tmod q + q) % q = modI p q := by
  have hq := inB_true h
  simp only [modI, h, if_true]
  rw [Int.tmod_eq_emod]
  split
  · simp
  · rw [show p % q - ↑q.natAbs + q = p % q by omega]; simp
theorem modI_lo {p q : Int} (h : inB q 1 1000000000000 = true) : 0 ≤ p.tmod q + q ∧ p.tmod q + q < 2000000000000 := by
  have hq := inB_true h
  have h1 := Int.tmod_lt_of_pos p (show 0 < q by omega)
  have h2 := Int.lt_tmod_of_pos p (show 0 < q by omega)
  omega
theorem modI_bd {p q : Int} (h : inB q 1 1000000000000 = true) : -1000000000000 < p.tmod q ∧ p.tmod q < 1000000000000 := by
  have hq := inB_true h
  have h1 := Int.tmod_lt_of_pos p (show 0 < q by omega)
  have h2 := Int.lt_tmod_of_pos p (show 0 < q by omega)
  omega

/-- The field's elements are 0 to 1018. -/
def elB (x : Int) : Bool := inB x 0 1018
def addF (a b : Int) : Int := if elB a && elB b then (a + b) % 1019 else 0
def subF (a b : Int) : Int := if elB a && elB b then (a + 1019 - b) % 1019 else 0
def mulF (a b : Int) : Int := if elB a && elB b then a * b % 1019 else 0

/-- a^n modulo m. -/
def powM (a n m : Int) : Int := ((a.toNat ^ n.toNat % m.toNat : Nat) : Int)
def powF (a n : Int) : Int := if elB a && inB n 0 1000000000000 then powM a n 1019 else 0
def grB (x : Int) : Bool := inB x 1 2038 && (powM x 1019 2039 == 1)
def powG (g n : Int) : Int := if grB g && elB n then powM g n 2039 else 0
def mulG (a b : Int) : Int := if grB a && grB b then a * b % 2039 else 0

def invF (a : Int) : Int := powF a 1017
theorem invF_yes {a : Int} (h : elB a = true) : invF a = powM a 1017 1019 := by
  simp only [invF, powF, h, show inB 1017 0 1000000000000 = true from by decide, Bool.and_self, if_true]
theorem invF_zero : invF 0 = 0 := by decide +kernel
theorem grB_bd {x : Int} (h : grB x = true) : 1 ≤ x ∧ x ≤ 2038 := by
  simp only [grB, Bool.and_eq_true] at h; exact inB_true h.1

theorem powM_bd (a n : Int) {m : Int} (h : 1 ≤ m) : 0 ≤ powM a n m ∧ powM a n m < m := by
  unfold powM
  have : a.toNat ^ n.toNat % m.toNat < m.toNat := Nat.mod_lt _ (by omega)
  omega

/-- The loop's invariant: out * a^n, modulo m, is what is wanted. -/
def PowInv (A N m out a n : Int) : Prop :=
  0 ≤ out ∧ out < m ∧ 0 ≤ a ∧ a < m ∧ 0 ≤ n ∧ n ≤ N ∧ out.toNat * a.toNat ^ n.toNat % m.toNat = A.toNat ^ N.toNat % m.toNat

theorem powInv_start {A N m : Int} (hA : 0 ≤ A) (hAm : A < m) (hN : 0 ≤ N) (hm : 2 ≤ m) : PowInv A N m 1 A N :=
  ⟨by omega, by omega, hA, hAm, hN, by omega, by simp⟩

theorem pow_half (a n m : Nat) : (a * a % m) ^ (n / 2) % m = a ^ (n / 2 * 2) % m := by
  rw [← Nat.pow_mod, ← Nat.pow_two, ← Nat.pow_mul]; congr 2; omega

theorem powInv_even {A N m out a n : Int} (h : PowInv A N m out a n) (h0 : n % 2 = 0) : PowInv A N m out (a * a % m) (n / 2) := by
  obtain ⟨h1, h2, h3, h4, h5, h6, h7⟩ := h
  refine ⟨h1, h2, Int.emod_nonneg _ (by omega), Int.emod_lt_of_pos _ (by omega), by omega, by omega, ?_⟩
  rw [← h7]
  obtain ⟨a, rfl⟩ := Int.eq_ofNat_of_zero_le h3
  obtain ⟨n, rfl⟩ := Int.eq_ofNat_of_zero_le h5
  obtain ⟨m, rfl⟩ := Int.eq_ofNat_of_zero_le (show 0 ≤ m by omega)
  have e1 : ((a : Int) * a % m).toNat = a * a % m := by rw [← Int.natCast_mul, ← Int.natCast_emod]; rfl
  have e2 : ((n : Int) / 2).toNat = n / 2 := by omega
  rw [e1, e2]
  simp only [Int.toNat_natCast]
  rw [Nat.mul_mod, pow_half, ← Nat.mul_mod]
  congr 3; omega

theorem powInv_odd {A N m out a n : Int} (h : PowInv A N m out a n) (h0 : n % 2 = 1) : PowInv A N m (out * a % m) (a * a % m) (n / 2) := by
  obtain ⟨h1, h2, h3, h4, h5, h6, h7⟩ := h
  refine ⟨Int.emod_nonneg _ (by omega), Int.emod_lt_of_pos _ (by omega), Int.emod_nonneg _ (by omega), Int.emod_lt_of_pos _ (by omega), by omega, by omega, ?_⟩
  rw [← h7]
  obtain ⟨a, rfl⟩ := Int.eq_ofNat_of_zero_le h3
  obtain ⟨n, rfl⟩ := Int.eq_ofNat_of_zero_le h5
  obtain ⟨o, rfl⟩ := Int.eq_ofNat_of_zero_le h1
  obtain ⟨m, rfl⟩ := Int.eq_ofNat_of_zero_le (show 0 ≤ m by omega)
  have e1 : ((a : Int) * a % m).toNat = a * a % m := by rw [← Int.natCast_mul, ← Int.natCast_emod]; rfl
  have e3 : ((o : Int) * a % m).toNat = o * a % m := by rw [← Int.natCast_mul, ← Int.natCast_emod]; rfl
  have e2 : ((n : Int) / 2).toNat = n / 2 := by omega
  rw [e1, e2, e3]
  simp only [Int.toNat_natCast]
  rw [Nat.mul_mod, pow_half, Nat.mod_mod, ← Nat.mul_mod, Nat.mul_assoc, ← Nat.pow_succ']
  congr 3; omega

theorem powInv_end {A N m out a n : Int} (h : PowInv A N m out a n) (h0 : ¬ 0 < n) : out = powM A N m := by
  obtain ⟨h1, h2, h3, h4, h5, h6, h7⟩ := h
  obtain rfl : n = 0 := by omega
  unfold powM
  rw [← h7]
  simp only [Int.toNat_zero, Nat.pow_zero, Nat.mul_one]
  rw [Nat.mod_eq_of_lt (by omega)]; omega

/-- The place of the first element that is not 0; -1 where there is none. -/
def leadFrom : List Int → Nat → Int
  | [], _ => -1
  | x :: t, i => if x != 0 then i else leadFrom t (i + 1)
def lead (zs : List Int) : Int := leadFrom zs 0

def vecB (zs : List Int) : Bool := zs.all elB && decide (zs.length ≤ 40)

def hstep (s v : Int) : Int := (s * 1000003 + modI v 2147483647 + 13) % 2147483647
def hashL (zs : List Int) : Int := zs.foldl hstep 11
theorem modI_M (v : Int) : modI v 2147483647 = v % 2147483647 := by
  simp only [modI, show inB 2147483647 1 1000000000000 = true from by decide, if_true]
theorem modI_M_bd (v : Int) : 0 ≤ modI v 2147483647 ∧ modI v 2147483647 < 2147483647 := by rw [modI_M]; omega
theorem hstep_bd (s v : Int) : 0 ≤ hstep s v ∧ hstep s v < 2147483647 := by unfold hstep; omega

def unitB (width index : Int) : Bool := inB width 0 40 && inB index 0 (width - 1)
def unitTo (index : Int) (k : Nat) : List Int := (List.range k).map fun i : Nat => if (i : Int) = index then 1 else 0
def unitL (width index : Int) : List Int := if unitB width index then unitTo index width.toNat else []
theorem unitTo_next (index : Int) (k : Nat) : unitTo index (k + 1) = unitTo index k ++ [if (k : Int) = index then 1 else 0] := by
  simp [unitTo, List.range_succ]
theorem unitTo_len (index : Int) (k : Nat) : (unitTo index k).length = k := by simp [unitTo]

theorem unitL_len (wd ix : Int) : (unitL wd ix).length ≤ 40 := by
  unfold unitL
  cases h : unitB wd ix
  · simp
  · simp only [unitB, Bool.and_eq_true] at h
    have := inB_true h.1
    simp only [if_true, unitTo_len]; omega

/-- k, k + 1, .. : n numbers. -/
def marks (k : Int) (n : Nat) : List Int := (List.range n).map fun i : Nat => k + (i : Int)
/-- The same, as bytes. -/
def marks8 (k : Int) (n : Nat) : List Int := (List.range n).map fun i : Nat => (k + (i : Int)) % 256
theorem marks_len (k : Int) (n : Nat) : (marks k n).length = n := by simp [marks]
theorem marks8_len (k : Int) (n : Nat) : (marks8 k n).length = n := by simp [marks8]
theorem marks_at (k : Int) (n j : Nat) (h : j < n) : (marks k n)[j]? = some (k + j) := by simp [marks, h]
theorem marks8_at (k : Int) (n j : Nat) (h : j < n) : (marks8 k n)[j]? = some ((k + j) % 256) := by simp [marks8, h]

end Go.Proofs.Ytbnghcjmfjmehaa.Nc
