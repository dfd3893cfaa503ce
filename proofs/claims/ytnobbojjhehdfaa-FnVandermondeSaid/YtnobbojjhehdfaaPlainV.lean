/- Plain laws of elimination and of Vandermonde matrices over the field. No program in sight. Conditions: stated with each theorem. -/
import Derived.Test.YtnobbojjhehdfaaPlainL
import Derived.Test.YtnobbojjhehdfaaPlainF
import Derived.Test.YtnobbojjhehdfaaVan
namespace Go.Proofs.Ytnobbojjhehdfaa
open Go.RowKit
set_option maxRecDepth 100000


/-! Elimination -/
/-- R has n rows of width c. -/
def Nc.shape (R : List (List Int)) (n c : Nat) : Prop := R.length = n ∧ ∀ r ∈ R, Nc.vecB r = true ∧ r.length = c
/-- The product of the i-th row and y. -/
def Nc.rdot (R : List (List Int)) (c i : Nat) (y : Nat → Int) : Int := Nc.sumN (fun j => Nc.ent R i j * y j) c
/-- k columns of R are unit columns, and what R kills, V kills. -/
def Nc.Elim (V R : List (List Int)) (n c k : Nat) : Prop :=
  Nc.shape R n c ∧ (∀ i j, i < n → j < k → Nc.ent R i j = if i = j then 1 else 0) ∧
    ∀ y : Nat → Int, (∀ i, i < n → Nc.rdot R c i y % 1019 = 0) → ∀ i, i < n → Nc.rdot V c i y % 1019 = 0
/-- No vector that ends in a 1 is killed by V. -/
def Nc.Full (V : List (List Int)) (n c : Nat) : Prop :=
  ∀ k, k < n → k < c → ∀ y : Nat → Int, y k = 1 → (∀ j, k < j → y j = 0) → (∀ i, i < n → Nc.rdot V c i y % 1019 = 0) → False
/-- From row k on, the first p rows have 0 in column k. -/
def Nc.zeroTo (R : List (List Int)) (k p : Nat) : Prop := ∀ i, k ≤ i → i < p → Nc.ent R i k = 0

theorem Nc.elim_start {V : List (List Int)} {n c : Nat} (h : Nc.shape V n c) : Nc.Elim V V n c 0 :=
  ⟨h, fun i j _ hj => by omega, fun y hy => hy⟩
theorem Nc.elim_pivot {V R : List (List Int)} {n c k : Nat} (h : Nc.Elim V R n c k) (hF : Nc.Full V n c) (hk : k < n) (hc : k < c) (hz : Nc.zeroTo R k n) : False := by
  obtain ⟨_, hu, hn⟩ := h
  refine hF k hk hc (fun j => if j = k then 1 else if j < k then - Nc.ent R j k else 0) (by simp) (fun j hj => by rw [if_neg (by omega), if_neg (by omega)]) (hn _ fun i hi => ?_)
  unfold Nc.rdot
  have e : Nc.sumN (fun j => Nc.ent R i j * (if j = k then 1 else if j < k then - Nc.ent R j k else 0)) c = Nc.sumN (fun j => (if j = k then Nc.ent R i j else 0) + (if j = i then (if j < k then - Nc.ent R j k else 0) else 0)) c := by
    refine Nc.sumN_congr fun j hj => ?_
    by_cases h1 : j = k
    · subst h1
      simp
    · by_cases h2 : j < k
      · rw [if_neg h1, if_pos h2, if_neg h1, hu i j hi h2]
        by_cases h3 : i = j
        · subst h3; simp
        · rw [if_neg h3, if_neg (fun e => h3 e.symm)]; simp
      · rw [if_neg h1, if_neg h2, if_neg h1]; simp
  rw [e, Nc.sumN_add, Nc.sumN_one hc]
  by_cases hik : i < k
  · rw [Nc.sumN_one (by omega : i < c), if_pos hik]; omega
  · have : Nc.sumN (fun j => if j = i then (if j < k then - Nc.ent R j k else 0) else 0) c = 0 := by
      refine Eq.trans (Nc.sumN_congr (g := fun _ => 0) fun j _ => ?_) (Nc.sumN_zero c)
      by_cases h1 : j = i
      · subst h1; rw [if_pos rfl, if_neg hik]
      · rw [if_neg h1]
    rw [this, hz i (by omega) hi]; rfl

/-- A row behind one round. -/
def Nc.elimRow (k : Nat) (prow : List Int) (j : Nat) (r : List Int) : List Int := if j = k then r else if r.getD k 0 = 0 then r else Nc.addL r prow (1019 - r.getD k 0)
/-- The first i rows behind one round. -/
def Nc.elimTo (R : List (List Int)) (k : Nat) (prow : List Int) (i : Nat) : List (List Int) := R.mapIdx fun j r => if j < i then Nc.elimRow k prow j r else r
theorem Nc.elimTo_len (R : List (List Int)) (k : Nat) (prow : List Int) (i : Nat) : (Nc.elimTo R k prow i).length = R.length := by simp [Nc.elimTo]
theorem Nc.elimTo_zero (R : List (List Int)) (k : Nat) (prow : List Int) : Nc.elimTo R k prow 0 = R := by
  unfold Nc.elimTo
  apply List.ext_getElem?
  intro j
  rw [List.getElem?_mapIdx]
  cases R[j]? with
  | none => rfl
  | some r => simp
theorem Nc.elimTo_at {R : List (List Int)} {k i j : Nat} {prow r : List Int} (h : R[j]? = some r) : (Nc.elimTo R k prow i)[j]? = some (if j < i then Nc.elimRow k prow j r else r) := by
  simp [Nc.elimTo, h]
theorem Nc.elimTo_next {R : List (List Int)} {k i : Nat} {prow r : List Int} (h : R[i]? = some r) : (Nc.elimTo R k prow i).set i (Nc.elimRow k prow i r) = Nc.elimTo R k prow (i + 1) := by
  have hi := (List.getElem?_eq_some_iff.1 h).1
  apply List.ext_getElem?
  intro j
  by_cases hj : j = i
  · subst hj
    rw [List.getElem?_set_self (by rw [Nc.elimTo_len]; exact hi), Nc.elimTo_at h, if_pos (by omega)]
  · rw [List.getElem?_set_ne (fun e => hj e.symm)]
    unfold Nc.elimTo
    rw [List.getElem?_mapIdx, List.getElem?_mapIdx]
    cases R[j]? with
    | none => rfl
    | some r' =>
      simp only [Option.map_some, Option.some.injEq]
      by_cases h2 : j < i
      · rw [if_pos h2, if_pos (by omega)]
      · rw [if_neg h2, if_neg (by omega)]
theorem Nc.elimTo_same {R : List (List Int)} {k i : Nat} {prow r : List Int} (h : R[i]? = some r) (hs : Nc.elimRow k prow i r = r) : Nc.elimTo R k prow (i + 1) = Nc.elimTo R k prow i := by
  rw [← Nc.elimTo_next h, hs]
  have := Nc.elimTo_at (k := k) (i := i) (prow := prow) h
  rw [if_neg (Nat.lt_irrefl _)] at this
  apply List.ext_getElem?
  intro j
  by_cases hj : j = i
  · subst hj
    rw [List.getElem?_set_self (by rw [Nc.elimTo_len]; exact (List.getElem?_eq_some_iff.1 h).1), this]
  · rw [List.getElem?_set_ne (fun e => hj e.symm)]

/-- The rows with the pivot's row laid in its place. -/
def Nc.swapR (R : List (List Int)) (k p : Nat) : List (List Int) := (R.set p (R.getD k [])).set k (Nc.scaleL (R.getD p []) (Nc.invF (Nc.ent R p k)))
def Nc.roundR (R : List (List Int)) (n k p : Nat) : List (List Int) := Nc.elimTo (Nc.swapR R k p) k ((Nc.swapR R k p).getD k []) n

theorem Nc.getD_of {R : List (List Int)} {i : Nat} {r : List Int} (h : R[i]? = some r) : R.getD i [] = r := by rw [List.getD_eq_getElem?_getD, h]; rfl
theorem Nc.shape_at {R : List (List Int)} {n c i : Nat} (h : Nc.shape R n c) (hi : i < n) : R[i]? = some (R.getD i []) ∧ Nc.vecB (R.getD i []) = true ∧ (R.getD i []).length = c := by
  have hi' : i < R.length := by rw [h.1]; exact hi
  have e : R[i]? = some R[i] := List.getElem?_eq_getElem hi'
  have := h.2 R[i] (List.getElem_mem _)
  rw [Nc.getD_of e]
  exact ⟨e, this⟩
theorem Nc.ent_bd {R : List (List Int)} {n c i j : Nat} (h : Nc.shape R n c) (hi : i < n) (hj : j < c) : 0 ≤ Nc.ent R i j ∧ Nc.ent R i j ≤ 1018 := by
  obtain ⟨_, h2, h3⟩ := Nc.shape_at h hi
  exact Nc.tab_get h2 h3 j hj
theorem Nc.shape_set {R : List (List Int)} {n c j : Nat} {r : List Int} (h : Nc.shape R n c) (hv : Nc.vecB r = true) (hl : r.length = c) : Nc.shape (R.set j r) n c := by
  refine ⟨by rw [List.length_set]; exact h.1, fun x hx => ?_⟩
  rcases List.mem_or_eq_of_mem_set hx with hx | hx
  · exact h.2 x hx
  · rw [hx]; exact ⟨hv, hl⟩
theorem Nc.getD_set {R : List (List Int)} {i j : Nat} {r : List Int} (hj : j < R.length) : (R.set j r).getD i [] = if i = j then r else R.getD i [] := by
  rw [List.getD_eq_getElem?_getD, List.getElem?_set, List.getD_eq_getElem?_getD]
  by_cases h : j = i
  · subst h; rw [if_pos rfl, if_pos hj, if_pos rfl]; rfl
  · rw [if_neg h, if_neg (fun e => h e.symm)]
theorem Nc.scale_len {zs : List Int} {k : Int} (hv : Nc.vecB zs = true) (hk : Nc.elB k = true) : (Nc.scaleL zs k).length = zs.length := by rw [Nc.scaleL_yes hv hk]; simp
theorem Nc.scale_at {zs : List Int} {k : Int} {j : Nat} (hv : Nc.vecB zs = true) (hk : Nc.elB k = true) (hj : j < zs.length) : (Nc.scaleL zs k).getD j 0 = zs.getD j 0 * k % 1019 := by
  rw [Nc.scaleL_yes hv hk, List.getD_eq_getElem?_getD, List.getElem?_map, Nc.get_some hj]; rfl
theorem Nc.addL_at {xs ys : List Int} {k : Int} {j : Nat} (hx : Nc.vecB xs = true) (hy : Nc.vecB ys = true) (h : xs.length = ys.length) (hk : Nc.elB k = true) (hj : j < xs.length) : (Nc.addL xs ys k).getD j 0 = (xs.getD j 0 + ys.getD j 0 * k) % 1019 := by
  rw [Nc.addL_yes hx hy h hk, List.getD_eq_getElem?_getD, Nc.addR_at (Nc.get_some hj) (Nc.get_some (by omega))]; rfl
theorem Nc.swap_shape {R : List (List Int)} {n c k p : Nat} (h : Nc.shape R n c) (hk : k < n) (hp : p < n) (hc : k < c) : Nc.shape (Nc.swapR R k p) n c := by
  obtain ⟨_, k2, k3⟩ := Nc.shape_at h hk
  obtain ⟨_, p2, p3⟩ := Nc.shape_at h hp
  have hx := Nc.ent_bd h hp hc
  have hi : Nc.elB (Nc.invF (Nc.ent R p k)) = true := Nc.elB_invF (Nc.elB_of hx.1 hx.2)
  refine Nc.shape_set (Nc.shape_set h k2 k3) ?_ ?_
  · rw [Nc.scaleL_yes p2 hi]; exact Nc.scale_vec _ p2
  · rw [Nc.scale_len p2 hi, p3]
theorem Nc.swap_row {R : List (List Int)} {n c k p i : Nat} (h : Nc.shape R n c) (hk : k < n) (hp : p < n) : (Nc.swapR R k p).getD i [] = if i = k then Nc.scaleL (R.getD p []) (Nc.invF (Nc.ent R p k)) else if i = p then R.getD k [] else R.getD i [] := by
  unfold Nc.swapR
  rw [Nc.getD_set (by rw [List.length_set, h.1]; exact hk), Nc.getD_set (by rw [h.1]; exact hp)]
theorem Nc.round_row {R : List (List Int)} {n c k p i : Nat} (h : Nc.shape R n c) (hk : k < n) (hp : p < n) (hc : k < c) (hi : i < n) : (Nc.roundR R n k p).getD i [] = Nc.elimRow k ((Nc.swapR R k p).getD k []) i ((Nc.swapR R k p).getD i []) := by
  unfold Nc.roundR
  have := (Nc.shape_at (Nc.swap_shape h hk hp hc) hi).1
  rw [Nc.getD_of (Nc.elimTo_at this), if_pos hi]
/-- An entry behind one round. -/
theorem Nc.round_ent {R : List (List Int)} {n c k p i j : Nat} (h : Nc.shape R n c) (hk : k < n) (hp : p < n) (hc : k < c) (hi : i < n) (hj : j < c) (hik : i ≠ k) :
    Nc.ent (Nc.roundR R n k p) i j = (Nc.ent (Nc.swapR R k p) i j + Nc.ent (Nc.swapR R k p) k j * (1019 - Nc.ent (Nc.swapR R k p) i k)) % 1019 := by
  have hs := Nc.swap_shape h hk hp hc
  obtain ⟨_, i2, i3⟩ := Nc.shape_at hs hi
  obtain ⟨_, k2, k3⟩ := Nc.shape_at hs hk
  have hb := Nc.ent_bd hs hi hc
  have hbj := Nc.ent_bd hs hi hj
  have hbk := Nc.ent_bd hs hk hj
  unfold Nc.ent at hb hbj hbk ⊢
  rw [Nc.round_row h hk hp hc hi]
  unfold Nc.elimRow
  rw [if_neg hik]
  by_cases h0 : ((Nc.swapR R k p).getD i []).getD k 0 = 0
  · rw [if_pos h0, h0]; omega
  · rw [if_neg h0, Nc.addL_at i2 k2 (by omega) (Nc.elB_of (by omega) (by omega)) (by omega)]
theorem Nc.round_entk {R : List (List Int)} {n c k p j : Nat} (h : Nc.shape R n c) (hk : k < n) (hp : p < n) (hc : k < c) : Nc.ent (Nc.roundR R n k p) k j = Nc.ent (Nc.swapR R k p) k j := by
  unfold Nc.ent
  rw [Nc.round_row h hk hp hc hk]
  unfold Nc.elimRow
  rw [if_pos rfl]
theorem Nc.swap_entk {R : List (List Int)} {n c k p j : Nat} (h : Nc.shape R n c) (hk : k < n) (hp : p < n) (hc : k < c) (hj : j < c) : Nc.ent (Nc.swapR R k p) k j = Nc.ent R p j * Nc.invF (Nc.ent R p k) % 1019 := by
  obtain ⟨_, p2, p3⟩ := Nc.shape_at h hp
  have hx := Nc.ent_bd h hp hc
  have hi : Nc.elB (Nc.invF (Nc.ent R p k)) = true := Nc.elB_invF (Nc.elB_of hx.1 hx.2)
  show ((Nc.swapR R k p).getD k []).getD j 0 = _
  rw [Nc.swap_row h hk hp, if_pos rfl, Nc.scale_at p2 hi (by omega)]
  rfl
theorem Nc.swap_enti {R : List (List Int)} {n c k p i j : Nat} (h : Nc.shape R n c) (hk : k < n) (hp : p < n) (hik : i ≠ k) : Nc.ent (Nc.swapR R k p) i j = if i = p then Nc.ent R k j else Nc.ent R i j := by
  show ((Nc.swapR R k p).getD i []).getD j 0 = _
  rw [Nc.swap_row h hk hp, if_neg hik]
  unfold Nc.ent
  split <;> rfl
theorem Nc.round_shape {R : List (List Int)} {n c k p : Nat} (h : Nc.shape R n c) (hk : k < n) (hp : p < n) (hc : k < c) : Nc.shape (Nc.roundR R n k p) n c := by
  have hs := Nc.swap_shape h hk hp hc
  refine ⟨by unfold Nc.roundR; rw [Nc.elimTo_len]; exact hs.1, fun r hr => ?_⟩
  obtain ⟨i, hi, rfl⟩ := List.getElem_of_mem hr
  have hin : i < n := by
    have : (Nc.roundR R n k p).length = n := by unfold Nc.roundR; rw [Nc.elimTo_len]; exact hs.1
    omega
  obtain ⟨_, i2, i3⟩ := Nc.shape_at hs hin
  obtain ⟨_, k2, k3⟩ := Nc.shape_at hs hk
  have hb := Nc.ent_bd hs hin hc
  have e := Nc.round_row h hk hp hc hin
  rw [Nc.getD_of (List.getElem?_eq_getElem hi)] at e
  rw [e]
  unfold Nc.elimRow
  split
  · exact ⟨i2, i3⟩
  · split
    · exact ⟨i2, i3⟩
    · rw [Nc.addL_yes i2 k2 (by omega) (Nc.elB_of (by unfold Nc.ent at hb; omega) (by unfold Nc.ent at hb; omega))]
      exact ⟨Nc.addR_vec _ i2, by rw [Nc.addR_len]; omega⟩
/-- One round more. -/
theorem Nc.elim_next {V R : List (List Int)} {n c k p : Nat} (h : Nc.Elim V R n c k) (hk : k < n) (hc : k < c) (hkp : k ≤ p) (hp : p < n) (hx : Nc.ent R p k ≠ 0) : Nc.Elim V (Nc.roundR R n k p) n c (k + 1) := by
  obtain ⟨hs, hu, hn⟩ := h
  have hxb := Nc.ent_bd hs hp hc
  have hinv := Nc.invF_mul (Nc.elB_of hxb.1 hxb.2) hx
  have ekk : Nc.ent (Nc.swapR R k p) k k = 1 := by rw [Nc.swap_entk hs hk hp hc hc, hinv]
  refine ⟨Nc.round_shape hs hk hp hc, fun i j hi hj => ?_, fun y hy => hn y fun i hi => ?_⟩
  · have hjc : j < c := by omega
    by_cases hik : i = k
    · subst hik
      rw [Nc.round_entk hs hk hp hc]
      by_cases hjk : j = i
      · subst hjk; rw [ekk, if_pos rfl]
      · rw [Nc.swap_entk hs hk hp hc hjc, hu p j hp (by omega), if_neg (by omega), if_neg (fun e => hjk e.symm)]; simp
    · rw [Nc.round_ent hs hk hp hc hi hjc hik]
      have hbi := Nc.ent_bd (Nc.swap_shape hs hk hp hc) hi hc
      by_cases hjk : j = k
      · subst hjk
        rw [ekk, if_neg hik]; omega
      · have ekj : Nc.ent (Nc.swapR R k p) k j = 0 := by
          rw [Nc.swap_entk hs hk hp hc hjc, hu p j hp (by omega), if_neg (by omega)]; simp
        rw [ekj, Nc.swap_enti hs hk hp hik]
        by_cases hip : i = p
        · subst hip
          rw [if_pos rfl, hu k j hk (by omega), if_neg (by omega), if_neg (by omega)]; simp
        · rw [if_neg hip, hu i j hi (by omega)]
          split <;> simp
  · have hk0 : Nc.rdot (Nc.swapR R k p) c k y % 1019 = 0 := by
      have := hy k hk
      unfold Nc.rdot at this ⊢
      rw [Nc.sumN_congr (fun j _ => by rw [Nc.round_entk hs hk hp hc])] at this
      exact this
    have hother : ∀ i, i < n → i ≠ k → Nc.rdot (Nc.swapR R k p) c i y % 1019 = 0 := by
      intro i hi hik
      have h1 := hy i hi
      unfold Nc.rdot at h1 hk0 ⊢
      have e : Nc.sumN (fun j => Nc.ent (Nc.roundR R n k p) i j * y j) c % 1019 = (Nc.sumN (fun j => Nc.ent (Nc.swapR R k p) i j * y j) c + (1019 - Nc.ent (Nc.swapR R k p) i k) * Nc.sumN (fun j => Nc.ent (Nc.swapR R k p) k j * y j) c) % 1019 := by
        rw [← Nc.sumN_mull, ← Nc.sumN_add]
        refine Nc.sumN_congr_mod fun j hj => ?_
        rw [Nc.round_ent hs hk hp hc hi hj hik, Int.mul_emod, Int.emod_emod, ← Int.mul_emod, Int.add_mul]
        congr 2
        rw [Int.mul_comm (Nc.ent (Nc.swapR R k p) k j), Int.mul_assoc]
      rw [e, Int.add_emod, Int.mul_emod, hk0] at h1
      simpa using h1
    by_cases hip : i = p
    · subst hip
      -- the pivot's row
      unfold Nc.rdot at hk0 ⊢
      have e : Nc.sumN (fun j => Nc.ent R i j * y j) c % 1019 = (Nc.ent R i k * Nc.sumN (fun j => Nc.ent (Nc.swapR R k i) k j * y j) c) % 1019 := by
        rw [← Nc.sumN_mull]
        refine Nc.sumN_congr_mod fun j hj => ?_
        rw [Nc.swap_entk hs hk hp hc hj, ← Int.mul_assoc, Int.mul_emod (Nc.ent R i k * _), Int.mul_emod (Nc.ent R i k) (_ % 1019), Int.emod_emod, ← Int.mul_emod (Nc.ent R i k), ← Int.mul_assoc, Int.mul_comm (Nc.ent R i k) (Nc.ent R i j), Int.mul_assoc, Int.mul_emod (Nc.ent R i j) (_ * _), hinv, Int.mul_one, Int.emod_emod, ← Int.mul_emod]
      rw [e, Int.mul_emod, hk0]; simp
    · by_cases hik : i = k
      · subst hik
        -- it lies where the pivot's row lay
        have := hother p hp (fun e => hip e.symm)
        unfold Nc.rdot at this ⊢
        rw [Nc.sumN_congr (fun j _ => by rw [Nc.swap_enti hs hk hp (fun e => hip e.symm), if_pos rfl])] at this
        exact this
      · have := hother i hi hik
        unfold Nc.rdot at this ⊢
        rw [Nc.sumN_congr (fun j _ => by rw [Nc.swap_enti hs hk hp hik, if_neg hip])] at this
        exact this

/-! Vandermonde matrices -/
def Nc.ev : List Int → Int → Int
  | [], _ => 0
  | a :: t, x => a + x * Nc.ev t x
def Nc.zipAdd : List Int → List Int → List Int
  | [], _ => []
  | b :: t, [] => b :: t
  | b :: t, c :: s => (b + c) :: Nc.zipAdd t s
/-- The quotient by X - r. -/
def Nc.dv : List Int → Int → List Int
  | [], _ => []
  | _ :: t, r => Nc.zipAdd t ((Nc.dv t r).map (fun a => r * a))
theorem Nc.zipAdd_len (t s : List Int) : (Nc.zipAdd t s).length = t.length := by
  induction t generalizing s with
  | nil => rfl
  | cons b t ih =>
    cases s with
    | nil => rfl
    | cons c s => simp [Nc.zipAdd, ih]
theorem Nc.zipAdd_ev (t s : List Int) (x : Int) (h : s.length ≤ t.length) : Nc.ev (Nc.zipAdd t s) x = Nc.ev t x + Nc.ev s x := by
  induction t generalizing s with
  | nil =>
    cases s with
    | nil => rfl
    | cons c s => simp at h
  | cons b t ih =>
    cases s with
    | nil => simp [Nc.zipAdd, Nc.ev]
    | cons c s =>
      simp only [Nc.zipAdd, Nc.ev]
      rw [ih s (by simpa using h), Int.mul_add]; omega
theorem Nc.zipAdd_last (t s : List Int) (h : s.length < t.length) : (Nc.zipAdd t s).getLast? = t.getLast? := by
  induction t generalizing s with
  | nil => simp at h
  | cons b t ih =>
    cases s with
    | nil => rfl
    | cons c s =>
      simp only [List.length_cons] at h
      have := ih s (by omega)
      cases t with
      | nil => simp at h
      | cons b' t =>
        have hz : ∃ z zs, Nc.zipAdd (b' :: t) s = z :: zs := by
          cases s with
          | nil => exact ⟨_, _, rfl⟩
          | cons c' s => exact ⟨_, _, rfl⟩
        obtain ⟨z, zs, hz⟩ := hz
        rw [Nc.zipAdd, hz, List.getLast?_cons_cons, ← hz, this, List.getLast?_cons_cons]
theorem Nc.dv_len (l : List Int) (r : Int) : (Nc.dv l r).length = l.length - 1 := by
  cases l with
  | nil => rfl
  | cons a t => simp [Nc.dv, Nc.zipAdd_len]
theorem Nc.ev_map (s : List Int) (r x : Int) : Nc.ev (s.map (fun a => r * a)) x = r * Nc.ev s x := by
  induction s with
  | nil => simp [Nc.ev]
  | cons a s ih =>
    simp only [List.map_cons, Nc.ev, ih, Int.mul_add]
    congr 1
    rw [← Int.mul_assoc, Int.mul_comm x r, Int.mul_assoc]
theorem Nc.dv_ev (l : List Int) (r x : Int) : Nc.ev l x - Nc.ev l r = (x - r) * Nc.ev (Nc.dv l r) x := by
  induction l with
  | nil => simp [Nc.ev, Nc.dv]
  | cons a t ih =>
    simp only [Nc.ev, Nc.dv]
    rw [Nc.zipAdd_ev _ _ _ (by rw [List.length_map, Nc.dv_len]; omega), Nc.ev_map, Int.mul_add]
    have e : (x - r) * (r * Nc.ev (Nc.dv t r) x) = r * (Nc.ev t x - Nc.ev t r) := by rw [ih, ← Int.mul_assoc, Int.mul_comm (x - r) r, Int.mul_assoc]
    rw [e, Int.mul_sub, Int.sub_mul]; omega
theorem Nc.dv_last (a b : Int) (t : List Int) (r : Int) : (Nc.dv (a :: b :: t) r).getLast? = (a :: b :: t).getLast? := by
  rw [List.getLast?_cons_cons]
  show (Nc.zipAdd (b :: t) _).getLast? = _
  exact Nc.zipAdd_last _ _ (by rw [List.length_map, Nc.dv_len]; simp)
theorem Nc.cancel {d e : Int} (h0 : d ≠ 0) (h1 : -1018 ≤ d) (h2 : d ≤ 1018) (h : d * e % 1019 = 0) : e % 1019 = 0 := by
  obtain ⟨m, hm⟩ := Int.eq_ofNat_of_zero_le (show 0 ≤ d % 1019 by omega)
  have hu := Nc.inv_nat (a := m) (by omega) (by omega)
  obtain ⟨u, hu2⟩ : ∃ u, u = m ^ 1017 % 1019 := ⟨_, rfl⟩
  rw [← hu2] at hu
  have hI : (d % 1019) * (u : Int) % 1019 = 1 := by
    rw [hm, show (1019 : Int) = ((1019 : Nat) : Int) from rfl, ← Int.natCast_mul, ← Int.natCast_emod, hu]; rfl
  have hI2 : d * (u : Int) % 1019 = 1 := by
    rw [Int.mul_emod, Int.emod_emod] at hI
    rw [Int.mul_emod]; exact hI
  have e1 : e % 1019 = (d * u) * e % 1019 := by rw [Int.mul_emod (d * u), hI2, Int.one_mul, Int.emod_emod]
  rw [e1, Int.mul_assoc, Int.mul_comm (u : Int) e, ← Int.mul_assoc, Int.mul_emod, h]; simp
theorem Nc.roots (pts : List Int) : ∀ l : List Int, l.length ≤ pts.length → l.getLast? = some 1 → pts.Nodup → (∀ x ∈ pts, 0 ≤ x ∧ x ≤ 1018) → (∀ x ∈ pts, Nc.ev l x % 1019 = 0) → False := by
  induction pts with
  | nil =>
    intro l hl h1
    have : l = [] := List.eq_nil_of_length_eq_zero (by simpa using hl)
    subst this; simp at h1
  | cons r ps ih =>
    intro l hl h1 hd hb hz
    match l, hl, h1, hz with
    | [], _, h1, _ => simp at h1
    | [a], _, h1, hz =>
      simp at h1
      have := hz r (by simp)
      simp [Nc.ev, h1] at this
    | a :: b :: t, hl, h1, hz =>
      refine ih (Nc.dv (a :: b :: t) r) (by rw [Nc.dv_len]; simp at hl ⊢; omega) (by rw [Nc.dv_last]; exact h1) (List.nodup_cons.1 hd).2 (fun x hx => hb x (by simp [hx])) (fun x hx => ?_)
      have hxr : x ≠ r := fun e => (List.nodup_cons.1 hd).1 (e ▸ hx)
      have b1 := hb x (by simp [hx])
      have b2 := hb r (by simp)
      refine Nc.cancel (d := x - r) (by omega) (by omega) (by omega) ?_
      rw [← Nc.dv_ev]
      have z1 := hz x (by simp [hx])
      have z2 := hz r (by simp)
      omega
theorem Nc.ev_snoc (s : List Int) (a x : Int) : Nc.ev (s ++ [a]) x = Nc.ev s x + x ^ s.length * a := by
  induction s with
  | nil => simp [Nc.ev]
  | cons b s ih =>
    simp only [List.cons_append, Nc.ev, ih, List.length_cons, Int.mul_add, Int.pow_succ]
    rw [Int.mul_comm (x ^ s.length) x, Int.mul_assoc]; omega
theorem Nc.ev_tab (y : Nat → Int) (x : Int) (m : Nat) : Nc.ev (Nc.tab m y) x = Nc.sumN (fun j => x ^ j * y j) m := by
  induction m with
  | zero => rfl
  | succ m ih =>
    have e : Nc.tab (m + 1) y = Nc.tab m y ++ [y m] := by simp [Nc.tab, List.range_succ]
    rw [e, Nc.ev_snoc, ih, Nc.tab_len]; rfl
theorem Nc.sumN_cut {f : Nat → Int} {m n : Nat} (h : m ≤ n) (hz : ∀ j, m ≤ j → f j = 0) : Nc.sumN f n = Nc.sumN f m := by
  induction n with
  | zero => have : m = 0 := by omega
            subst this; rfl
  | succ n ih =>
    by_cases hm : m = n + 1
    · subst hm; rfl
    · rw [Nc.sumN, ih (by omega), hz n (by omega)]; omega
theorem Nc.powM_mod {x : Int} (h : 0 ≤ x) (j : Nat) : Nc.powM x (j : Int) 1019 = x ^ j % 1019 := by
  obtain ⟨n, rfl⟩ := Int.eq_ofNat_of_zero_le h
  unfold Nc.powM
  simp only [Int.toNat_natCast, show Int.toNat 1019 = 1019 from rfl]
  rw [Int.natCast_emod, Int.natCast_pow]; rfl
theorem Nc.van_full {ps : List Int} (hd : ps.Nodup) (hb : ∀ x ∈ ps, 0 ≤ x ∧ x ≤ 1018) (q : Nat) : Nc.Full (Nc.vanR ps q) ps.length q := by
  intro k hk hq y y1 yz hz
  refine Nc.roots ps (Nc.tab (k + 1) y) (by rw [Nc.tab_len]; omega) ?_ hd hb (fun x hx => ?_)
  · have e : Nc.tab (k + 1) y = Nc.tab k y ++ [y k] := by simp [Nc.tab, List.range_succ]
    rw [e, List.getLast?_concat, y1]
  · obtain ⟨i, hi, rfl⟩ := List.getElem_of_mem hx
    have h0 := (hb _ hx).1
    have hh := hz i hi
    unfold Nc.rdot at hh
    rw [Nc.ev_tab, ← hh, Nc.sumN_cut (f := fun j => Nc.ent (Nc.vanR ps q) i j * y j) (show k + 1 ≤ q by omega) (fun j hj => by rw [yz j (by omega), Int.mul_zero])]
    refine Nc.sumN_congr_mod fun j hj => ?_
    have e : Nc.ent (Nc.vanR ps q) i j = Nc.powM ps[i] (j : Int) 1019 := by
      unfold Nc.ent
      rw [Nc.getD_of (Nc.vanR_at q (List.getElem?_eq_getElem hi)), List.getD_eq_getElem?_getD, Nc.vanRow_at _ (by omega)]; rfl
    rw [e, Nc.powM_mod h0, Int.mul_emod (ps[i] ^ j % 1019), Int.emod_emod, ← Int.mul_emod]
theorem Nc.van_shape {ps : List Int} (q : Nat) (hq : q ≤ 40) : Nc.shape (Nc.vanR ps q) ps.length q := by
  refine ⟨Nc.vanR_len ps q, fun r hr => ?_⟩
  obtain ⟨x, _, rfl⟩ := List.mem_map.1 hr
  refine ⟨Nc.vecB_mk (fun y hy => ?_) (by rw [Nc.vanRow_len]; exact hq), Nc.vanRow_len x q⟩
  obtain ⟨j, _, rfl⟩ := List.mem_map.1 hy
  have := Nc.powM_bd x (j : Int) (m := 1019) (by omega)
  omega
theorem Nc.shape_cols {R : List (List Int)} {n c : Nat} (h : Nc.shape R n c) (hn : 0 < n) : Nc.cols R = c := by
  cases R with
  | nil => have := h.1; simp at this; omega
  | cons r t => exact (h.2 r (by simp)).2
theorem Nc.shape_mat {R : List (List Int)} {n c : Nat} (h : Nc.shape R n c) (hn : n ≤ 40) : Nc.matB R = true := by
  refine Nc.matB_mk (fun r hr => ?_) (by rw [h.1]; exact hn)
  refine ⟨(h.2 r hr).1, ?_⟩
  rw [(h.2 r hr).2, Nc.shape_cols h]
  rw [← h.1]; exact List.length_pos_of_mem hr

end Go.Proofs.Ytnobbojjhehdfaa
