/- Plain laws of the field, the group, the varints, the byte strings and the hash. No program in sight. Conditions: stated with each theorem. -/
import Derived.Test.YtnobbojjhehdfaaPlain
namespace Go.Proofs.Ytnobbojjhehdfaa.Nc

/-- Modulo arithmetic. -/
theorem mul_mod_r (a b m : Int) : a * (b % m) % m = a * b % m := by rw [Int.mul_emod, Int.emod_emod, ← Int.mul_emod]
theorem mul_mod_l (a b m : Int) : a % m * b % m = a * b % m := by rw [Int.mul_emod, Int.emod_emod, ← Int.mul_emod]
theorem add_mod_r (a b m : Int) : (a + b % m) % m = (a + b) % m := by rw [Int.add_emod, Int.emod_emod, ← Int.add_emod]
theorem add_mod_l (a b m : Int) : (a % m + b) % m = (a + b) % m := by rw [Int.add_emod, Int.emod_emod, ← Int.add_emod]

theorem elB_bd {x : Int} (h : elB x = true) : 0 ≤ x ∧ x ≤ 1018 := inB_true h
theorem elB_of {x : Int} (h0 : 0 ≤ x) (h1 : x ≤ 1018) : elB x = true := inB_of h0 h1
theorem elB_mod (x : Int) : elB (x % 1019) = true := elB_of (by omega) (by omega)
theorem addF_yes {a b : Int} (ha : elB a = true) (hb : elB b = true) : addF a b = (a + b) % 1019 := by simp only [addF, ha, hb, Bool.and_self, if_true]
theorem subF_yes {a b : Int} (ha : elB a = true) (hb : elB b = true) : subF a b = (a + 1019 - b) % 1019 := by simp only [subF, ha, hb, Bool.and_self, if_true]
theorem mulF_yes {a b : Int} (ha : elB a = true) (hb : elB b = true) : mulF a b = a * b % 1019 := by simp only [mulF, ha, hb, Bool.and_self, if_true]

theorem elB_addF {a b : Int} (ha : elB a = true) (hb : elB b = true) : elB (addF a b) = true := by rw [addF_yes ha hb]; exact elB_mod _
theorem elB_subF {a b : Int} (ha : elB a = true) (hb : elB b = true) : elB (subF a b) = true := by rw [subF_yes ha hb]; exact elB_mod _
theorem elB_mulF {a b : Int} (ha : elB a = true) (hb : elB b = true) : elB (mulF a b) = true := by rw [mulF_yes ha hb]; exact elB_mod _

theorem field_no {a b : Int} (h : elB a = false ∨ elB b = false) : addF a b = 0 ∧ mulF a b = 0 ∧ subF a b = 0 := by
  rcases h with h | h <;> simp [addF, mulF, subF, h]
theorem field_sub {a b : Int} (ha : elB a = true) (hb : elB b = true) : addF (subF a b) b = a := by
  rw [addF_yes (elB_subF ha hb) hb, subF_yes ha hb]
  have := elB_bd ha; have := elB_bd hb; omega
theorem field_dist {a b c : Int} (ha : elB a = true) (hb : elB b = true) (hc : elB c = true) : mulF a (addF b c) = addF (mulF a b) (mulF a c) := by
  rw [mulF_yes ha (elB_addF hb hc), addF_yes (elB_mulF ha hb) (elB_mulF ha hc), addF_yes hb hc, mulF_yes ha hb, mulF_yes ha hc, mul_mod_r, add_mod_l, add_mod_r, Int.mul_add]
theorem field_comm (a b : Int) : mulF a b = mulF b a := by
  unfold mulF; rw [Bool.and_comm, Int.mul_comm]
theorem inv_all : (List.range 1018).all (fun i => (i + 1) * ((i + 1) ^ 1017 % 1019) % 1019 == 1) = true := by decide +kernel
theorem inv_nat {a : Nat} (h0 : 0 < a) (h1 : a ≤ 1018) : a * (a ^ 1017 % 1019) % 1019 = 1 := by
  have := List.all_eq_true.1 inv_all (a - 1) (List.mem_range.2 (by omega))
  rw [show a - 1 + 1 = a by omega] at this
  simpa using this
theorem invF_mul {a : Int} (ha : elB a = true) (h0 : a ≠ 0) : a * invF a % 1019 = 1 := by
  obtain ⟨b0, b1⟩ := elB_bd ha
  obtain ⟨n, rfl⟩ := Int.eq_ofNat_of_zero_le b0
  rw [invF_yes ha]
  unfold powM
  have := inv_nat (a := n) (by omega) (by omega)
  simp only [Int.toNat_natCast, show Int.toNat 1017 = 1017 from rfl, show Int.toNat 1019 = 1019 from rfl]
  rw [show (1019 : Int) = ((1019 : Nat) : Int) from rfl, ← Int.natCast_mul, ← Int.natCast_emod, this]; rfl
theorem elB_powM (a n : Int) : elB (powM a n 1019) = true := by
  have := powM_bd a n (m := 1019) (by omega)
  exact elB_of this.1 (by omega)
theorem elB_invF {a : Int} (ha : elB a = true) : elB (invF a) = true := by rw [invF_yes ha]; exact elB_powM _ _
theorem field_inv {a : Int} (ha : elB a = true) (h0 : a ≠ 0) : mulF a (invF a) = 1 := by
  rw [mulF_yes ha (elB_invF ha), invF_mul ha h0]
theorem field_inv0 {a : Int} (ha : elB a = true) (h0 : a ≠ 0) : invF a ≠ 0 := by
  intro h
  have := invF_mul ha h0
  rw [h] at this
  simp at this
theorem field_sq {a : Int} (ha : elB a = true) : powF a 2 = mulF a a := by
  obtain ⟨b0, b1⟩ := elB_bd ha
  obtain ⟨n, rfl⟩ := Int.eq_ofNat_of_zero_le b0
  rw [mulF_yes ha ha, powF, ha, show inB 2 0 1000000000000 = true from by decide]
  simp only [Bool.and_self, if_true, powM, Int.toNat_natCast, show Int.toNat 2 = 2 from rfl, show Int.toNat 1019 = 1019 from rfl]
  rw [Nat.pow_two]; simp
theorem fermat_step {n k m : Nat} (h : n * (n ^ k % m) % m = 1) : n ^ (k + 1) % m = 1 := by
  rw [Nat.pow_succ, Nat.mul_comm, Nat.mul_mod]
  rw [Nat.mul_mod, Nat.mod_mod] at h
  exact h
theorem field_fermat {a : Int} (ha : elB a = true) (h0 : a ≠ 0) : powF a 1018 = 1 := by
  obtain ⟨b0, b1⟩ := elB_bd ha
  obtain ⟨n, rfl⟩ := Int.eq_ofNat_of_zero_le b0
  rw [powF, ha, show inB 1018 0 1000000000000 = true from by decide]
  simp only [Bool.and_self, if_true, powM, Int.toNat_natCast, show Int.toNat 1018 = 1017 + 1 from rfl, show Int.toNat 1019 = 1019 from rfl]
  rw [fermat_step (inv_nat (a := n) (by omega) (by omega))]; rfl

/-- The group. -/
theorem grB_pow {g : Int} (h : grB g = true) : ∃ q m : Nat, q = 1019 ∧ m = 2039 ∧ g.toNat ^ q % m = 1 := by
  simp only [grB, Bool.and_eq_true, powM, beq_iff_eq] at h
  exact ⟨Int.toNat 1019, Int.toNat 2039, rfl, rfl, by have := h.2; omega⟩
theorem grB_mk {n q m : Nat} (hq : q = 1019) (hm : m = 2039) (h1 : 1 ≤ n) (h2 : n ≤ 2038) (h : n ^ q % m = 1) : grB (n : Int) = true := by
  simp only [grB, Bool.and_eq_true, powM, beq_iff_eq]
  refine ⟨inB_of (by omega) (by omega), ?_⟩
  rw [show Int.toNat 1019 = q from hq.symm, show Int.toNat 2039 = m from hm.symm, Int.toNat_natCast, h]; rfl
theorem powG_yes {g n : Int} {m : Nat} (hm : m = 2039) (hg : grB g = true) (hn : elB n = true) : powG g n = ((g.toNat ^ n.toNat % m : Nat) : Int) := by
  simp only [powG, hg, hn, Bool.and_self, if_true, powM]
  rw [show Int.toNat 2039 = m from hm.symm]
theorem group_no {g : Int} (h : grB g = false) (n : Int) : powG g n = 0 ∧ mulG g 1 = 0 := by simp [powG, mulG, h]
theorem group_no2 (g : Int) {n : Int} (h : elB n = false) : powG g n = 0 := by simp [powG, h]
theorem pow_mod_one (g k q m : Nat) (hm : 1 < m) (h : g ^ q % m = 1) : g ^ (q * k) % m = 1 := by
  rw [Nat.pow_mul, Nat.pow_mod, h, Nat.one_pow, Nat.mod_eq_of_lt hm]
theorem zero_pow_mod (q m : Nat) (hq : 0 < q) : 0 ^ q % m = 0 := by rw [Nat.zero_pow hq, Nat.zero_mod]
theorem group_step {g k q m : Nat} (hk : k + 1 = q) (h : g ^ q % m = 1) : g * (g ^ k % m) % m = 1 := by
  subst hk
  rw [Nat.mul_mod, Nat.mod_mod, ← Nat.mul_mod, ← Nat.pow_succ', h]
theorem group_el' (g n q m : Nat) (hq : 0 < q) (hm : 1 < m) (h : g ^ q % m = 1) : (g ^ n % m) ^ q % m = 1 ∧ 1 ≤ g ^ n % m := by
  have h1 : (g ^ n % m) ^ q % m = 1 := by
    rw [← Nat.pow_mod, ← Nat.pow_mul, Nat.mul_comm]; exact pow_mod_one _ _ _ _ hm h
  refine ⟨h1, ?_⟩
  rcases Nat.eq_zero_or_pos (g ^ n % m) with h0 | h0
  · rw [h0, zero_pow_mod q m hq] at h1; exact absurd h1 (by omega)
  · exact h0
theorem group_el {g n : Int} (hg : grB g = true) (hn : elB n = true) : grB (powG g n) = true := by
  obtain ⟨q, m, hq, hm, hp⟩ := grB_pow hg
  rw [powG_yes hm hg hn]
  obtain ⟨h1, h2⟩ := group_el' g.toNat n.toNat q m (by omega) (by omega) hp
  refine grB_mk hq hm h2 ?_ h1
  have := Nat.mod_lt (g.toNat ^ n.toNat) (show 0 < m by omega); omega
theorem group_add' (g n q m : Nat) (hm : 1 < m) (h : g ^ q % m = 1) : g ^ n % m = g ^ (n % q) % m := by
  conv => lhs; rw [← Nat.div_add_mod n q]
  rw [Nat.pow_add, Nat.mul_mod, pow_mod_one _ _ _ _ hm h]
  simp
theorem mulG_yes {a b : Int} {m : Nat} (hm : m = 2039) (ha : grB a = true) (hb : grB b = true) : mulG a b = a * b % m := by
  simp only [mulG, ha, hb, Bool.and_self, if_true]; rw [hm]; rfl
theorem group_add {g n k : Int} (hg : grB g = true) (hn : elB n = true) (hk : elB k = true) : mulG (powG g n) (powG g k) = powG g (addF n k) := by
  obtain ⟨q, m, hq, hm, hp⟩ := grB_pow hg
  rw [mulG_yes hm (group_el hg hn) (group_el hg hk)]
  rw [powG_yes hm hg hn, powG_yes hm hg hk, powG_yes hm hg (elB_addF hn hk), addF_yes hn hk]
  obtain ⟨n0, n1⟩ := elB_bd hn
  obtain ⟨m0, m1⟩ := elB_bd hk
  obtain ⟨n, rfl⟩ := Int.eq_ofNat_of_zero_le n0
  obtain ⟨k, rfl⟩ := Int.eq_ofNat_of_zero_le m0
  rw [← Int.natCast_mul, ← Int.natCast_emod]
  congr 1
  rw [← Nat.mul_mod, Int.toNat_natCast, Int.toNat_natCast, ← Nat.pow_add]
  have e : (((n : Int) + k) % 1019).toNat = (n + k) % q := by rw [hq]; omega
  rw [e]
  exact group_add' _ _ q m (by omega) hp
theorem group_zero {g : Int} (hg : grB g = true) : powG g 0 = 1 := by
  rw [powG_yes rfl hg (by decide)]; simp
theorem group_inv {g : Int} (hg : grB g = true) : mulG g (powG g 1018) = 1 := by
  obtain ⟨q, m, hq, hm, hp⟩ := grB_pow hg
  rw [mulG_yes hm hg (group_el hg (show elB 1018 = true by decide))]
  rw [powG_yes hm hg (by decide)]
  have hb := grB_bd hg
  obtain ⟨g, rfl⟩ := Int.eq_ofNat_of_zero_le (show 0 ≤ g by omega)
  simp only [Int.toNat_natCast] at hp ⊢
  rw [← Int.natCast_mul, ← Int.natCast_emod]
  rw [group_step (show Int.toNat 1018 + 1 = q by rw [hq]; rfl) hp]; rfl
/-- A varint is read back from where it was written. -/
theorem rdU_uv {zs rest : List Int} {off : Nat} (f : Nat) : ∀ (i F : Nat) (acc n : Int), f ≤ F + 1 → 1 ≤ f → zs.drop (off + i) = uv F n ++ rest → 0 ≤ n → n < 128 ^ f → (0 < i → n ≠ 0) → acc + n * 128 ^ i ≤ 1000000000000 →
    rdU zs off f i acc = (acc + n * 128 ^ i, (off : Int) + i + ((uv F n).length : Nat), true) := by
  induction f with
  | zero => intro i F acc n _ h; omega
  | succ f ih =>
    intro i F acc n hF _ hd h0 h1 hi hb
    have hz : zs[off + i]? = (uv F n ++ rest)[0]? := by rw [← hd, List.getElem?_drop, Nat.add_zero]
    by_cases h : 128 ≤ n
    · obtain ⟨F, rfl⟩ : ∃ G, F = G + 1 := by
        cases F with
        | zero =>
          have : f = 0 := by omega
          subst this; simp at h1; omega
        | succ F => exact ⟨F, rfl⟩
      have hf1 : 1 ≤ f := by
        cases f with
        | zero => simp at h1; omega
        | succ f => omega
      rw [uv, if_pos h] at hz hd ⊢
      rw [rdU, hz]
      simp only [List.cons_append, List.getElem?_cons_zero, List.length_cons]
      rw [if_pos (by omega)]
      have hm : (n % 128 + 128) % 128 = n % 128 := by omega
      rw [hm]
      have hpow : (128 : Int) ^ (i + 1) = 128 ^ i * 128 := Int.pow_succ ..
      have key : acc + n % 128 * 128 ^ i + n / 128 * 128 ^ (i + 1) = acc + n * 128 ^ i := by
        rw [hpow, Int.add_assoc, show n / 128 * (128 ^ i * 128) = (n / 128 * 128) * 128 ^ i by rw [Int.mul_comm (128 ^ i) 128, ← Int.mul_assoc], ← Int.add_mul]
        congr 2; omega
      rw [ih (i + 1) F _ (n / 128) (by omega) hf1 ?_ (by omega) ?_ (by omega) (by rw [key]; exact hb)]
      · rw [key]
        congr 2
        omega
      · rw [← Nat.add_assoc, ← List.drop_drop, hd]
        rfl
      · rw [Int.pow_succ] at h1
        exact Int.ediv_lt_of_lt_mul (by omega) h1
    · rw [uv_small (by omega)] at hz ⊢
      rw [rdU, hz]
      simp only [List.cons_append, List.getElem?_cons_zero, List.length_cons, List.length_nil]
      rw [if_neg h, show n % 128 = n by omega, if_neg (by rintro (⟨a, b⟩ | a); exact hi a b; omega)]
      congr 2
theorem readU_uv (b rest : List Int) {n : Int} (h : inB n 0 1000000000000 = true) : readU (b ++ uv 6 n ++ rest) b.length = (n, ((b ++ uv 6 n).length : Int), true) := by
  obtain ⟨h0, h1⟩ := inB_true h
  rw [readU, if_neg (by omega), Int.toNat_natCast, rdU_uv (rest := rest) 6 0 6 0 n (by omega) (by omega) (by rw [Nat.add_zero, List.append_assoc, List.drop_left]) h0 (by omega) (by omega) (by simp; omega)]
  simp
theorem varint_yes (b : List Int) {n : Int} (h : inB n 0 1000000000000 = true) : readU (encU b n) b.length = (n, ((encU b n).length : Int), true) := by
  rw [encU, if_pos h]
  have := readU_uv b [] h
  rwa [List.append_nil] at this
theorem varint_no (b : List Int) {n : Int} (h : inB n 0 1000000000000 = false) : encU b n = b ∧ readU b b.length = (0, 0, false) := by
  refine ⟨by simp [encU, h], ?_⟩
  rw [readU, if_neg (by omega), Int.toNat_natCast, rdU, Nat.add_zero, List.getElem?_eq_none (Nat.le_refl _)]
/-- What is read is the varint of its integer. -/
theorem rdU_back {zs : List Int} (hb : ∀ x ∈ zs, 0 ≤ x ∧ x ≤ 255) {off : Nat} (f : Nat) : ∀ (i F : Nat) (acc : Int), f ≤ F + 1 → (rdU zs off f i acc).2.2 = true →
    ∃ (v : Int) (k : Nat), 0 ≤ v ∧ v < 128 ^ f ∧ (0 < i → v ≠ 0) ∧ (rdU zs off f i acc).1 = acc + v * 128 ^ i ∧ (rdU zs off f i acc).2.1 = (off : Int) + i + k ∧ (zs.drop (off + i)).take k = uv F v := by
  induction f with
  | zero => intro i F acc _ h; simp [rdU] at h
  | succ f ih =>
    intro i F acc hF h
    rw [rdU] at h ⊢
    cases hc : zs[off + i]? with
    | none => rw [hc] at h; simp at h
    | some c =>
      rw [hc] at h
      simp only at h ⊢
      have hcb := hb c (List.mem_of_getElem? hc)
      obtain ⟨hlt, hce⟩ := List.getElem?_eq_some_iff.1 hc
      have hdrop : zs.drop (off + i) = c :: zs.drop (off + (i + 1)) := by rw [List.drop_eq_getElem_cons hlt, hce, Nat.add_assoc]
      by_cases h1 : 128 ≤ c
      · rw [if_pos h1] at h ⊢
        obtain ⟨G, rfl⟩ : ∃ G, F = G + 1 := by
          cases F with
          | zero =>
            have : f = 0 := by omega
            subst this; simp [rdU] at h
          | succ F => exact ⟨F, rfl⟩
        obtain ⟨v, k, v0, v1, vn, e1, e2, e3⟩ := ih (i + 1) G _ (by omega) h
        have vn := vn (by omega)
        refine ⟨c % 128 + 128 * v, k + 1, by omega, ?_, by omega, ?_, by rw [e2]; omega, ?_⟩
        · rw [Int.pow_succ]; omega
        · rw [e1, Int.pow_succ, Int.add_mul, Int.add_assoc]
          congr 2
          rw [Int.mul_comm (128 ^ i) 128, ← Int.mul_assoc, Int.mul_comm v 128]
        · rw [hdrop, List.take_succ_cons, e3, uv, if_pos (by omega)]
          congr 1
          · omega
          · congr 1; omega
      · rw [if_neg h1] at h ⊢
        by_cases h2 : (0 < i ∧ c = 0) ∨ 1000000000000 < acc + c % 128 * 128 ^ i
        · rw [if_pos h2] at h; simp at h
        · rw [if_neg h2]
          refine ⟨c, 1, hcb.1, ?_, ?_, ?_, ?_, ?_⟩
          · have hp := pow128_pos f
            rw [Int.pow_succ]; omega
          · intro hi hc0; exact h2 (.inl ⟨hi, hc0⟩)
          · simp only [show c % 128 = c by omega]
          · simp only; omega
          · rw [hdrop, uv_small (by omega)]; rfl
theorem varint_back {zs : List Int} (hb : ∀ x ∈ zs, 0 ≤ x ∧ x ≤ 255) {off : Int} (h : (readU zs off).2.2 = true) :
    ∃ k a : Nat, off = (k : Int) ∧ (readU zs off).2.1 = (a : Int) ∧ k < a ∧ a ≤ zs.length ∧ encU [] (readU zs off).1 = (zs.drop k).take (a - k) := by
  by_cases h0 : off < 0
  · rw [readU_neg h0] at h; simp at h
  · obtain ⟨k, rfl⟩ := Int.eq_ofNat_of_zero_le (show 0 ≤ off by omega)
    have hr : readU zs (k : Int) = rdU zs k 6 0 0 := by rw [readU, if_neg h0]; rfl
    rw [hr] at h ⊢
    have hok := rdU_ok hb (off := k) (f := 6) (i := 0) (acc := 0) (by omega) h
    obtain ⟨v, m, v0, v1, _, e1, e2, e3⟩ := rdU_back hb 6 0 6 0 (by omega) h
    simp only [Int.pow_zero, Int.mul_one, Int.zero_add] at e1
    refine ⟨k, k + m, rfl, by rw [e2]; omega, by rw [e2] at hok; omega, by rw [e2] at hok; omega, ?_⟩
    rw [e1] at hok ⊢
    rw [encU, if_pos (inB_of v0 hok.2.1), List.nil_append, show k + m - k = m by omega]
    rw [Nat.add_zero] at e3
    exact e3.symm

/-- Byte strings are read back. -/
theorem bytes_yes (b data : List Int) (h : data.length ≤ 1000000) : readB (encU b data.length ++ data) b.length data.length = (data, ((encU b data.length ++ data).length : Int), true) := by
  have hin : inB (data.length : Int) 0 1000000000000 = true := inB_of (by omega) (by omega)
  rw [encU, if_pos hin, readB, readU_uv b data hin]
  simp only
  rw [if_neg (by simp; omega), Int.toNat_natCast, Int.toNat_natCast, List.drop_left, List.take_of_length_le (Nat.le_refl _)]
  congr 2
  simp only [List.length_append]; omega
theorem bytes_short (b data : List Int) (h : data.length ≤ 1000000) {m : Int} (hm : m < data.length) : readB (encU b data.length ++ data) b.length m = ([], 0, false) := by
  have hin : inB (data.length : Int) 0 1000000000000 = true := inB_of (by omega) (by omega)
  rw [encU, if_pos hin, readB, readU_uv b data hin]
  simp only
  rw [if_pos (by right; left; exact hm)]
/-- Lists of integers are read back. -/
def uvs (l : List Int) : List Int := (l.map (uv 6)).flatten
theorem encL_uvs (b l : List Int) (h : ∀ x ∈ l, inB x 0 1000000000000 = true) : encL b l = b ++ uvs l := by
  induction l generalizing b with
  | nil => simp [encL, uvs]
  | cons x l ih =>
    have e : encL b (x :: l) = encL (encU b x) l := rfl
    rw [e, ih _ (fun y hy => h y (by simp [hy])), encU, if_pos (h x (by simp))]
    simp [uvs]
theorem decL_uvs (l : List Int) (pre o : List Int) (h : ∀ x ∈ l, inB x 0 1000000000000 = true) (r : Nat) :
    decL (pre ++ uvs l) (l.length + r) pre.length o = decL (pre ++ uvs l) r (pre ++ uvs l).length (o ++ l) := by
  induction l generalizing pre o with
  | nil => simp [uvs]
  | cons x l ih =>
    have hx := h x (by simp)
    have e : pre ++ uvs (x :: l) = (pre ++ uv 6 x) ++ uvs l := by simp [uvs]
    rw [e, show (x :: l).length + r = (l.length + r) + 1 by simp; omega, decL, readU_uv pre (uvs l) hx]
    simp only [if_true]
    rw [ih (pre ++ uv 6 x) (o ++ [x]) (fun y hy => h y (by simp [hy]))]
    congr 1; simp
theorem ints_yes (l : List Int) (h : ∀ x ∈ l, inB x 0 1000000000000 = true) (hl : l.length ≤ 99) : decI (encL [] l) 0 l.length = (l, ((encL [] l).length : Int), true) := by
  rw [decI, inB_of (show (0 : Int) ≤ l.length by omega) (by omega), inB_of (Int.le_refl 0) (by omega)]
  simp only [Bool.and_self, if_true, Int.toNat_natCast]
  have := decL_uvs l [] [] h 0
  rw [encL_uvs [] l h]
  simp only [Nat.add_zero, List.length_nil, List.nil_append] at this ⊢
  rw [show (0 : Int) = ((0 : Nat) : Int) from rfl, this]
  rfl
theorem ints_more (l : List Int) (h : ∀ x ∈ l, inB x 0 1000000000000 = true) (hl : l.length ≤ 99) : decI (encL [] l) 0 (l.length + 1) = ([], 0, false) := by
  rw [decI, inB_of (show (0 : Int) ≤ l.length + 1 by omega) (by omega), inB_of (Int.le_refl 0) (by omega)]
  simp only [Bool.and_self, if_true]
  rw [show ((l.length : Int) + 1).toNat = l.length + 1 by omega]
  have := decL_uvs l [] [] h 1
  rw [encL_uvs [] l h]
  simp only [List.length_nil, List.nil_append] at this ⊢
  rw [show (0 : Int) = ((0 : Nat) : Int) from rfl, this, decL]
  have e := (varint_no (uvs l) (n := -1) (by decide)).2
  rw [e]
  rfl

/-- The hash tells two values apart. -/
theorem mod_cancel {a b : Int} (h : a * 1000003 % 2147483647 = b * 1000003 % 2147483647) : a % 2147483647 = b % 2147483647 := by
  have key : ∀ x : Int, x % 2147483647 = (x * 1000003 % 2147483647) * 1523789695 % 2147483647 := by
    intro x
    rw [Int.mul_emod (x * 1000003 % 2147483647), Int.emod_emod, ← Int.mul_emod, Int.mul_assoc, Int.mul_emod x, show (1000003 * 1523789695 : Int) % 2147483647 = 1 from by decide, Int.mul_one, Int.emod_emod]
  rw [key a, key b, h]
theorem mod_shift {p q c m : Int} (h : (p + c) % m = (q + c) % m) : p % m = q % m := by
  have e : ∀ x : Int, x % m = ((x + c) % m + -c) % m := by
    intro x; rw [Int.add_emod ((x + c) % m), Int.emod_emod, ← Int.add_emod]; congr 1; omega
  rw [e p, e q, h]
theorem hstep_inj {s t v : Int} (h : hstep s v = hstep t v) : s % 2147483647 = t % 2147483647 := by
  unfold hstep at h
  rw [Int.add_assoc, Int.add_assoc] at h
  exact mod_cancel (mod_shift h)
theorem hstep_inj2 {s u v : Int} (h : hstep s u = hstep s v) : u % 2147483647 = v % 2147483647 := by
  unfold hstep at h
  rw [modI_M, modI_M] at h
  omega
theorem fold_inj (l : List Int) : ∀ {s t : Int}, l.foldl hstep s = l.foldl hstep t → s % 2147483647 = t % 2147483647 := by
  induction l with
  | nil => intro s t h; rw [show s = t from h]
  | cons x l ih =>
    intro s t h
    have := ih h
    have b1 := hstep_bd s x
    have b2 := hstep_bd t x
    exact hstep_inj (v := x) (by omega)
theorem hash_differs (pre post : List Int) {u v : Int} (h : u % 2147483647 ≠ v % 2147483647) : hashL (pre ++ u :: post) ≠ hashL (pre ++ v :: post) := by
  unfold hashL
  rw [List.foldl_append, List.foldl_append, List.foldl_cons, List.foldl_cons]
  intro he
  have := fold_inj post he
  have b1 := hstep_bd (pre.foldl hstep 11) u
  have b2 := hstep_bd (pre.foldl hstep 11) v
  exact h (hstep_inj2 (s := pre.foldl hstep 11) (by omega))

end Go.Proofs.Ytnobbojjhehdfaa.Nc
