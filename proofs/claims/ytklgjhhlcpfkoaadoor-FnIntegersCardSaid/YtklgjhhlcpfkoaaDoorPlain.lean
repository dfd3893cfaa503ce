/- The plain functions that the Go functions compute: integers, the prime field, the group. No program in sight. Conditions: none. -/
import Derived.KernelRfl
namespace Go.Proofs.YtklgjhhlcpfkoaaDoor.Nc

/-- lo ≤ n and n ≤ hi. -/
def inB (n lo hi : Int) : Bool := decide (lo ≤ n ∧ n ≤ hi)
theorem inB_true {n lo hi : Int} (h : inB n lo hi = true) : lo ≤ n ∧ n ≤ hi := by simpa [inB] using h
theorem inB_false {n lo hi : Int} (h : inB n lo hi = false) : ¬ (lo ≤ n ∧ n ≤ hi) := by simpa [inB] using h
theorem inB_of {n lo hi : Int} (h1 : lo ≤ n) (h2 : n ≤ hi) : inB n lo hi = true := by simp [inB, h1, h2]
theorem inB_not {n lo hi : Int} (h : ¬ (lo ≤ n ∧ n ≤ hi)) : inB n lo hi = false := by simp only [inB, decide_eq_false_iff_not]; exact h

def maxI (a b : Int) : Int := if a < b then b else a
def minI (a b : Int) : Int := if b < a then b else a

def ceilDiv (a b : Int) : Int := if inB a 0 1000000000000 && inB b 1 1000000000000 then (a + b - 1) / b else 0
/-- The Go functions Mod: the remainder that is not negative. -/
def modI (p q : Int) : Int := if inB q 1 1000000000000 then p % q else 0
theorem modI_yes {p q : Int} (h : inB q 1 1000000000000 = true) : (p.tmod q + q) % q = modI p q := by
  have hq := inB_true h
  simp only [modI, h, if_true]
  rw [Int.tmod_eq_emod]
  split
  · simp
  · rw [show p % q - ↑q.natAbs + q = p % q by omega]; simp
theorem modI_lo {p q : Int} (h : inB q 1 1000000000000 = true) : 0 ≤ p.tmod q + q ∧ p.tmod q + q < 2000000000000 := by
  have hq := inB_true h
  have h1 := Int.tmod_lt_of_pos p (show 0 < q by omega)
  have h2 := Int.lt_tmod_of_pos p (show 0 < q by omega)
  omega
theorem modI_bd {p q : Int} (h : inB q 1 1000000000000 = true) : -1000000000000 < p.tmod q ∧ p.tmod q < 1000000000000 := by
  have hq := inB_true h
  have h1 := Int.tmod_lt_of_pos p (show 0 < q by omega)
  have h2 := Int.lt_tmod_of_pos p (show 0 < q by omega)
  omega

/-- The field's elements are 0 to 1018. -/
def elB (x : Int) : Bool := inB x 0 1018
def addF (a b : Int) : Int := if elB a && elB b then (a + b) % 1019 else 0
def subF (a b : Int) : Int := if elB a && elB b then (a + 1019 - b) % 1019 else 0
def mulF (a b : Int) : Int := if elB a && elB b then a * b % 1019 else 0

/-- a^n modulo m. -/
def powM (a n m : Int) : Int := ((a.toNat ^ n.toNat % m.toNat : Nat) : Int)
def powF (a n : Int) : Int := if elB a && inB n 0 1000000000000 then powM a n 1019 else 0
def grB (x : Int) : Bool := inB x 1 2038 && (powM x 1019 2039 == 1)
def powG (g n : Int) : Int := if grB g && elB n then powM g n 2039 else 0
def mulG (a b : Int) : Int := if grB a && grB b then a * b % 2039 else 0

def invF (a : Int) : Int := powF a 1017
theorem invF_yes {a : Int} (h : elB a = true) : invF a = powM a 1017 1019 := by
  simp only [invF, powF, h, show inB 1017 0 1000000000000 = true from by decide, Bool.and_self, if_true]
theorem invF_zero : invF 0 = 0 := by decide +kernel
theorem grB_bd {x : Int} (h : grB x = true) : 1 ≤ x ∧ x ≤ 2038 := by
  simp only [grB, Bool.and_eq_true] at h; exact inB_true h.1

theorem powM_bd (a n : Int) {m : Int} (h : 1 ≤ m) : 0 ≤ powM a n m ∧ powM a n m < m := by
  unfold powM
  have : a.toNat ^ n.toNat % m.toNat < m.toNat := Nat.mod_lt _ (by omega)
  omega

/-- The loop's invariant: out * a^n, modulo m, is what is wanted. -/
def PowInv (A N m out a n : Int) : Prop :=
  0 ≤ out ∧ out < m ∧ 0 ≤ a ∧ a < m ∧ 0 ≤ n ∧ n ≤ N ∧ out.toNat * a.toNat ^ n.toNat % m.toNat = A.toNat ^ N.toNat % m.toNat

theorem powInv_start {A N m : Int} (hA : 0 ≤ A) (hAm : A < m) (hN : 0 ≤ N) (hm : 2 ≤ m) : PowInv A N m 1 A N :=
  ⟨by omega, by omega, hA, hAm, hN, by omega, by simp⟩

theorem pow_half (a n m : Nat) : (a * a % m) ^ (n / 2) % m = a ^ (n / 2 * 2) % m := by
  rw [← Nat.pow_mod, ← Nat.pow_two, ← Nat.pow_mul]; congr 2; omega

theorem powInv_even {A N m out a n : Int} (h : PowInv A N m out a n) (h0 : n % 2 = 0) : PowInv A N m out (a * a % m) (n / 2) := by
  obtain ⟨h1, h2, h3, h4, h5, h6, h7⟩ := h
  refine ⟨h1, h2, Int.emod_nonneg _ (by omega), Int.emod_lt_of_pos _ (by omega), by omega, by omega, ?_⟩
  rw [← h7]
  obtain ⟨a, rfl⟩ := Int.eq_ofNat_of_zero_le h3
  obtain ⟨n, rfl⟩ := Int.eq_ofNat_of_zero_le h5
  obtain ⟨m, rfl⟩ := Int.eq_ofNat_of_zero_le (show 0 ≤ m by omega)
  have e1 : ((a : Int) * a % m).toNat = a * a % m := by rw [← Int.natCast_mul, ← Int.natCast_emod]; rfl
  have e2 : ((n : Int) / 2).toNat = n / 2 := by omega
  rw [e1, e2]
  simp only [Int.toNat_natCast]
  rw [Nat.mul_mod, pow_half, ← Nat.mul_mod]
  congr 3; omega

theorem powInv_odd {A N m out a n : Int} (h : PowInv A N m out a n) (h0 : n % 2 = 1) : PowInv A N m (out * a % m) (a * a % m) (n / 2) := by
  obtain ⟨h1, h2, h3, h4, h5, h6, h7⟩ := h
  refine ⟨Int.emod_nonneg _ (by omega), Int.emod_lt_of_pos _ (by omega), Int.emod_nonneg _ (by omega), Int.emod_lt_of_pos _ (by omega), by omega, by omega, ?_⟩
  rw [← h7]
  obtain ⟨a, rfl⟩ := Int.eq_ofNat_of_zero_le h3
  obtain ⟨n, rfl⟩ := Int.eq_ofNat_of_zero_le h5
  obtain ⟨o, rfl⟩ := Int.eq_ofNat_of_zero_le h1
  obtain ⟨m, rfl⟩ := Int.eq_ofNat_of_zero_le (show 0 ≤ m by omega)
  have e1 : ((a : Int) * a % m).toNat = a * a % m := by rw [← Int.natCast_mul, ← Int.natCast_emod]; rfl
  have e3 : ((o : Int) * a % m).toNat = o * a % m := by rw [← Int.natCast_mul, ← Int.natCast_emod]; rfl
  have e2 : ((n : Int) / 2).toNat = n / 2 := by omega
  rw [e1, e2, e3]
  simp only [Int.toNat_natCast]
  rw [Nat.mul_mod, pow_half, Nat.mod_mod, ← Nat.mul_mod, Nat.mul_assoc, ← Nat.pow_succ']
  congr 3; omega

theorem powInv_end {A N m out a n : Int} (h : PowInv A N m out a n) (h0 : ¬ 0 < n) : out = powM A N m := by
  obtain ⟨h1, h2, h3, h4, h5, h6, h7⟩ := h
  obtain rfl : n = 0 := by omega
  unfold powM
  rw [← h7]
  simp only [Int.toNat_zero, Nat.pow_zero, Nat.mul_one]
  rw [Nat.mod_eq_of_lt (by omega)]; omega

/-- The place of the first element that is not 0; -1 where there is none. -/
def leadFrom : List Int → Nat → Int
  | [], _ => -1
  | x :: t, i => if x != 0 then i else leadFrom t (i + 1)
def lead (zs : List Int) : Int := leadFrom zs 0

def vecB (zs : List Int) : Bool := zs.all elB && decide (zs.length ≤ 40)

def hstep (s v : Int) : Int := (s * 1000003 + modI v 2147483647 + 13) % 2147483647
def hashL (zs : List Int) : Int := zs.foldl hstep 11
theorem modI_M (v : Int) : modI v 2147483647 = v % 2147483647 := by
  simp only [modI, show inB 2147483647 1 1000000000000 = true from by decide, if_true]
theorem modI_M_bd (v : Int) : 0 ≤ modI v 2147483647 ∧ modI v 2147483647 < 2147483647 := by rw [modI_M]; omega
theorem hstep_bd (s v : Int) : 0 ≤ hstep s v ∧ hstep s v < 2147483647 := by unfold hstep; omega

def unitB (width index : Int) : Bool := inB width 0 40 && inB index 0 (width - 1)
def unitTo (index : Int) (k : Nat) : List Int := (List.range k).map fun i : Nat => if (i : Int) = index then 1 else 0
def unitL (width index : Int) : List Int := if unitB width index then unitTo index width.toNat else []
theorem unitTo_next (index : Int) (k : Nat) : unitTo index (k + 1) = unitTo index k ++ [if (k : Int) = index then 1 else 0] := by
  simp [unitTo, List.range_succ]
theorem unitTo_len (index : Int) (k : Nat) : (unitTo index k).length = k := by simp [unitTo]

theorem unitL_len (wd ix : Int) : (unitL wd ix).length ≤ 40 := by
  unfold unitL
  cases h : unitB wd ix
  · simp
  · simp only [unitB, Bool.and_eq_true] at h
    have := inB_true h.1
    simp only [if_true, unitTo_len]; omega

/-- k, k + 1, .. : n numbers. -/
def marks (k : Int) (n : Nat) : List Int := (List.range n).map fun i : Nat => k + (i : Int)
/-- The same, as bytes. -/
def marks8 (k : Int) (n : Nat) : List Int := (List.range n).map fun i : Nat => (k + (i : Int)) % 256
theorem marks_len (k : Int) (n : Nat) : (marks k n).length = n := by simp [marks]
theorem marks8_len (k : Int) (n : Nat) : (marks8 k n).length = n := by simp [marks8]
theorem marks_at (k : Int) (n j : Nat) (h : j < n) : (marks k n)[j]? = some (k + j) := by simp [marks, h]
theorem marks8_at (k : Int) (n j : Nat) (h : j < n) : (marks8 k n)[j]? = some ((k + j) % 256) := by simp [marks8, h]

/-- The varint of n, in at most f + 1 bytes. -/
def uv : Nat → Int → List Int
  | 0, n => [n]
  | f + 1, n => if 128 ≤ n then (n % 128 + 128) :: uv f (n / 128) else [n]
def encU (b : List Int) (n : Int) : List Int := if inB n 0 1000000000000 then b ++ uv 6 n else b
/-- The loop of AppendUvarint: what is still to come. -/
def UvInv (b : List Int) (N : Int) (o : List Int) (cur : Int) : Prop :=
  ∃ f, f ≤ 6 ∧ 0 ≤ cur ∧ cur < 128 ^ (f + 1) ∧ b ++ uv 6 N = o ++ uv f cur ∧ o.length ≤ b.length + (6 - f)
theorem uvInv_start {b : List Int} {N : Int} (h : inB N 0 1000000000000 = true) : UvInv b N b N := by
  obtain ⟨h0, h1⟩ := inB_true h
  exact ⟨6, by omega, h0, by omega, rfl, by omega⟩
theorem uvInv_next {b : List Int} {N : Int} {o : List Int} {cur : Int} (h : UvInv b N o cur) (hc : 128 ≤ cur) : UvInv b N (o ++ [cur % 128 + 128]) (cur / 128) := by
  obtain ⟨f, hf, h0, h1, he, hl⟩ := h
  cases f with
  | zero => simp at h1; omega
  | succ f =>
    refine ⟨f, by omega, by omega, ?_, ?_, by simp; omega⟩
    · rw [Int.pow_succ] at h1
      exact Int.ediv_lt_of_lt_mul (by omega) h1
    · rw [he, uv, if_pos hc]; simp
theorem uv_small {f : Nat} {n : Int} (h : n < 128) : uv f n = [n] := by
  cases f with
  | zero => rfl
  | succ f => rw [uv, if_neg (by omega)]
theorem uvInv_end {b : List Int} {N : Int} {o : List Int} {cur : Int} (h : UvInv b N o cur) (hc : cur < 128) (hN : inB N 0 1000000000000 = true) : encU b N = o ++ [cur] ∧ 0 ≤ cur := by
  obtain ⟨f, hf, h0, h1, he, hl⟩ := h
  refine ⟨?_, h0⟩
  rw [encU, if_pos hN, he, uv_small hc]
theorem uvInv_len {b : List Int} {N : Int} {o : List Int} {cur : Int} (h : UvInv b N o cur) : o.length ≤ b.length + 6 ∧ 0 ≤ cur := by
  obtain ⟨f, hf, h0, h1, he, hl⟩ := h
  exact ⟨by omega, h0⟩
theorem uv_len (f : Nat) (n : Int) : (uv f n).length ≤ f + 1 := by
  induction f generalizing n with
  | zero => simp [uv]
  | succ f ih =>
    rw [uv]; split
    · simp only [List.length_cons]; have := ih (n / 128); omega
    · simp
theorem encU_len (b : List Int) (n : Int) : (encU b n).length ≤ b.length + 7 := by
  unfold encU; split
  · have := uv_len 6 n; simp; omega
  · omega
theorem uv_byte (f : Nat) (n : Int) (h0 : 0 ≤ n) (h1 : n < 128 ^ (f + 1)) : ∀ x ∈ uv f n, 0 ≤ x ∧ x ≤ 255 := by
  induction f generalizing n with
  | zero => intro x hx; simp [uv] at hx; subst hx; simp at h1; omega
  | succ f ih =>
    intro x hx
    rw [uv] at hx
    split at hx
    · simp only [List.mem_cons] at hx
      rcases hx with rfl | hx
      · omega
      · refine ih (n / 128) (by omega) ?_ x hx
        rw [Int.pow_succ] at h1
        exact Int.ediv_lt_of_lt_mul (by omega) h1
    · simp only [List.mem_singleton] at hx; omega
theorem encU_byte {b : List Int} {n : Int} (hb : ∀ x ∈ b, 0 ≤ x ∧ x ≤ 255) : ∀ x ∈ encU b n, 0 ≤ x ∧ x ≤ 255 := by
  intro x hx
  unfold encU at hx
  split at hx
  · rename_i h
    obtain ⟨h0, h1⟩ := inB_true h
    rcases List.mem_append.1 hx with hx | hx
    · exact hb x hx
    · exact uv_byte 6 n h0 (by omega) x hx
  · exact hb x hx

/-- Reading a varint: f rounds are left, i have been, acc is what they gave. -/
def rdU (zs : List Int) (off : Nat) : Nat → Nat → Int → Int × Int × Bool
  | 0, _, _ => (0, 0, false)
  | f + 1, i, acc =>
    match zs[off + i]? with
    | none => (0, 0, false)
    | some c =>
      if 128 ≤ c then rdU zs off f (i + 1) (acc + c % 128 * 128 ^ i)
      else if (0 < i ∧ c = 0) ∨ 1000000000000 < acc + c % 128 * 128 ^ i then (0, 0, false)
      else (acc + c % 128 * 128 ^ i, (off : Int) + i + 1, true)
def readU (zs : List Int) (off : Int) : Int × Int × Bool := if off < 0 then (0, 0, false) else rdU zs off.toNat 6 0 0

/-- After k rounds: what is left to read, and the bound on what has been read. -/
def RdInv (zs : List Int) (off k : Nat) (acc : Int) : Prop := readU zs off = rdU zs off (6 - k) k acc ∧ 0 ≤ acc ∧ acc < 128 ^ k
theorem rdInv_start (zs : List Int) (off : Nat) : RdInv zs off 0 0 := by
  refine ⟨?_, by omega, by decide⟩
  rw [readU, if_neg (by omega)]; rfl
theorem pow128_pos (k : Nat) : (0 : Int) < 128 ^ k := Int.pow_pos (by decide)
theorem rdInv_next {zs : List Int} {off k : Nat} {acc c : Int} (h : RdInv zs off k acc) (hk : k < 6) (hc : zs[off + k]? = some c) (h1 : 128 ≤ c) : RdInv zs off (k + 1) (acc + c % 128 * 128 ^ k) := by
  obtain ⟨he, h0, hl⟩ := h
  have hp := pow128_pos k
  have hm : 0 ≤ c % 128 * 128 ^ k := Int.mul_nonneg (by omega) (by omega)
  have hm2 : c % 128 * 128 ^ k ≤ 127 * 128 ^ k := Int.mul_le_mul_of_nonneg_right (by omega) (by omega)
  refine ⟨?_, by omega, by rw [Int.pow_succ]; omega⟩
  rw [he, show 6 - k = (6 - (k + 1)) + 1 by omega, rdU, hc]
  simp only [h1, if_true]
theorem rdInv_bad {zs : List Int} {off k : Nat} {acc c : Int} (h : RdInv zs off k acc) (hk : k < 6) (hc : zs[off + k]? = some c) (h1 : ¬ 128 ≤ c) (hb : (0 < k ∧ c = 0) ∨ 1000000000000 < acc + c % 128 * 128 ^ k) : readU zs off = (0, 0, false) := by
  rw [h.1, show 6 - k = (6 - (k + 1)) + 1 by omega, rdU, hc]
  simp only [h1, if_false, if_pos hb]
theorem rdInv_good {zs : List Int} {off k : Nat} {acc c : Int} (h : RdInv zs off k acc) (hk : k < 6) (hc : zs[off + k]? = some c) (h1 : ¬ 128 ≤ c) (hb : ¬ ((0 < k ∧ c = 0) ∨ 1000000000000 < acc + c % 128 * 128 ^ k)) : readU zs off = (acc + c % 128 * 128 ^ k, (off : Int) + k + 1, true) := by
  rw [h.1, show 6 - k = (6 - (k + 1)) + 1 by omega, rdU, hc]
  simp only [h1, if_false, if_neg hb]
theorem rdInv_out {zs : List Int} {off k : Nat} {acc : Int} (h : RdInv zs off k acc) (hc : zs.length ≤ off + k) : readU zs off = (0, 0, false) := by
  rw [h.1]
  cases hf : 6 - k with
  | zero => rfl
  | succ f => rw [rdU, List.getElem?_eq_none hc]
theorem rdInv_six {zs : List Int} {off : Nat} {acc : Int} (h : RdInv zs off 6 acc) : readU zs off = (0, 0, false) := by rw [h.1]; rfl
theorem readU_neg {zs : List Int} {off : Int} (h : off < 0) : readU zs off = (0, 0, false) := by rw [readU, if_pos h]

theorem rdU_ok {zs : List Int} (hb : ∀ x ∈ zs, 0 ≤ x ∧ x ≤ 255) {off : Nat} {f i : Nat} {acc : Int} (h0 : 0 ≤ acc) (h : (rdU zs off f i acc).2.2 = true) :
    0 ≤ (rdU zs off f i acc).1 ∧ (rdU zs off f i acc).1 ≤ 1000000000000 ∧ (off : Int) + i < (rdU zs off f i acc).2.1 ∧ (rdU zs off f i acc).2.1 ≤ zs.length ∧ (rdU zs off f i acc).2.1 ≤ (off : Int) + i + f := by
  induction f generalizing i acc with
  | zero => simp [rdU] at h
  | succ f ih =>
    rw [rdU] at h ⊢
    cases hc : zs[off + i]? with
    | none => rw [hc] at h; simp at h
    | some c =>
      rw [hc] at h
      simp only at h ⊢
      have hcb := hb c (List.mem_of_getElem? hc)
      have hlt := (List.getElem?_eq_some_iff.1 hc).1
      have hm : 0 ≤ c % 128 * 128 ^ i := Int.mul_nonneg (by omega) (Int.le_of_lt (pow128_pos i))
      split
      · rename_i h1
        rw [if_pos h1] at h
        have := ih (i := i + 1) (acc := acc + c % 128 * 128 ^ i) (by omega) h
        omega
      · rename_i h1
        rw [if_neg h1] at h
        split
        · rename_i h2
          rw [if_pos h2] at h
          simp at h
        · simp only; omega
theorem readU_ok {zs : List Int} (hb : ∀ x ∈ zs, 0 ≤ x ∧ x ≤ 255) {off : Int} (h : (readU zs off).2.2 = true) :
    0 ≤ off ∧ 0 ≤ (readU zs off).1 ∧ (readU zs off).1 ≤ 1000000000000 ∧ off < (readU zs off).2.1 ∧ (readU zs off).2.1 ≤ zs.length := by
  unfold readU at h ⊢
  split
  · rename_i h1; rw [if_pos h1] at h; simp at h
  · rename_i h1
    rw [if_neg h1] at h
    have := rdU_ok hb (by omega) h
    omega
theorem rdU_no {zs : List Int} {off f i : Nat} {acc : Int} (h : (rdU zs off f i acc).2.2 = false) : rdU zs off f i acc = (0, 0, false) := by
  induction f generalizing i acc with
  | zero => rfl
  | succ f ih =>
    rw [rdU] at h ⊢
    cases hc : zs[off + i]? with
    | none => rfl
    | some c =>
      rw [hc] at h
      simp only at h ⊢
      split
      · rename_i h1; rw [if_pos h1] at h; exact ih h
      · rename_i h1
        rw [if_neg h1] at h
        split
        · rfl
        · rename_i h2; rw [if_neg h2] at h; simp at h
theorem readU_no {zs : List Int} {off : Int} (h : (readU zs off).2.2 = false) : readU zs off = (0, 0, false) := by
  unfold readU at h ⊢
  split
  · rfl
  · rename_i h1; rw [if_neg h1] at h; exact rdU_no h

/-- The varints of a list, one behind the other. -/
def encL (b : List Int) (zs : List Int) : List Int := zs.foldl encU b
def EncIs (zs : List Int) (k : Nat) (o : List Int) : Prop := encL [] zs = encL o (zs.drop k)
theorem enc_next {zs : List Int} {k : Nat} {o : List Int} {x : Int} (h : EncIs zs k o) (hx : zs[k]? = some x) : EncIs zs (k + 1) (encU o x) := by
  obtain ⟨hl, he⟩ := List.getElem?_eq_some_iff.1 hx
  unfold EncIs at h ⊢
  rw [h, List.drop_eq_getElem_cons hl, he]; rfl
theorem enc_end {zs : List Int} {n : Nat} {o : List Int} (h : EncIs zs n o) (hl : zs.length = n) : encL [] zs = o := by
  unfold EncIs at h; rw [h, List.drop_of_length_le (by omega)]; rfl
theorem encL_len (b zs : List Int) : (encL b zs).length ≤ b.length + 7 * zs.length := by
  induction zs generalizing b with
  | nil => simp [encL]
  | cons z zs ih =>
    have h1 := ih (encU b z)
    have h2 := encU_len b z
    simp only [encL, List.foldl_cons, List.length_cons] at h1 ⊢
    omega

/-- Reading a byte string. -/
def readB (zs : List Int) (off most : Int) : List Int × Int × Bool :=
  if (readU zs off).2.2 = false ∨ most < (readU zs off).1 ∨ (zs.length : Int) - (readU zs off).2.1 < (readU zs off).1 then ([], 0, false)
  else ((zs.drop (readU zs off).2.1.toNat).take (readU zs off).1.toNat, (readU zs off).2.1 + (readU zs off).1, true)
/-- Reading k integers. -/
def decL (zs : List Int) : Nat → Int → List Int → List Int × Int × Bool
  | 0, off, o => (o, off, true)
  | k + 1, off, o => if (readU zs off).2.2 then decL zs k (readU zs off).2.1 (o ++ [(readU zs off).1]) else ([], 0, false)
def decI (zs : List Int) (off count : Int) : List Int × Int × Bool :=
  if inB count 0 100 && inB off 0 zs.length then decL zs count.toNat off [] else ([], 0, false)

def DecIs (zs : List Int) (R : List Int × Int × Bool) (k : Nat) (off : Int) (o : List Int) : Prop := R = decL zs k off o
theorem dec_no {zs : List Int} {R : List Int × Int × Bool} {k : Nat} {off : Int} {o : List Int} (h : DecIs zs R k off o) (hk : 0 < k) (hn : (readU zs off).2.2 = false) : R = ([], 0, false) := by
  unfold DecIs at h
  obtain ⟨j, rfl⟩ : ∃ j, k = j + 1 := ⟨k - 1, by omega⟩
  rw [h, decL, hn]; rfl
theorem dec_next {zs : List Int} {R : List Int × Int × Bool} {q k : Nat} {off : Int} {o : List Int} (h : DecIs zs R (q - k) off o) (hk : k < q) (hn : (readU zs off).2.2 = true) : DecIs zs R (q - (k + 1)) (readU zs off).2.1 (o ++ [(readU zs off).1]) := by
  unfold DecIs at h ⊢
  rw [h, show q - k = (q - (k + 1)) + 1 by omega, decL, hn]; rfl
theorem dec_end {zs : List Int} {R : List Int × Int × Bool} {q : Nat} {off : Int} {o : List Int} (h : DecIs zs R (q - q) off o) : R = (o, off, true) := by
  unfold DecIs at h; rw [h, Nat.sub_self]; rfl

end Go.Proofs.YtklgjhhlcpfkoaaDoor.Nc
