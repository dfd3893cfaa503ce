/- Plain laws of vectors, combinations and matrices over the field. No program in sight. Conditions: stated with each theorem. -/
import Derived.Test.YtnobbojjhehdfaaMulM
namespace Go.Proofs.Ytnobbojjhehdfaa
open Go.RowKit
set_option maxRecDepth 100000

/-- The sum of f 0 .. f (k - 1). -/
def Nc.sumN (f : Nat → Int) : Nat → Int
  | 0 => 0
  | k + 1 => Nc.sumN f k + f k
theorem Nc.sumN_congr {f g : Nat → Int} {n : Nat} (h : ∀ i, i < n → f i = g i) : Nc.sumN f n = Nc.sumN g n := by
  induction n with
  | zero => rfl
  | succ n ih => rw [Nc.sumN, Nc.sumN, ih (fun i hi => h i (by omega)), h n (by omega)]
theorem Nc.sumN_add (f g : Nat → Int) (n : Nat) : Nc.sumN (fun i => f i + g i) n = Nc.sumN f n + Nc.sumN g n := by
  induction n with
  | zero => rfl
  | succ n ih => simp only [Nc.sumN, ih]; omega
theorem Nc.sumN_mulr (f : Nat → Int) (c : Int) (n : Nat) : Nc.sumN (fun i => f i * c) n = Nc.sumN f n * c := by
  induction n with
  | zero => simp [Nc.sumN]
  | succ n ih => simp only [Nc.sumN, ih, Int.add_mul]
theorem Nc.sumN_mull (f : Nat → Int) (c : Int) (n : Nat) : Nc.sumN (fun i => c * f i) n = c * Nc.sumN f n := by
  induction n with
  | zero => simp [Nc.sumN]
  | succ n ih => simp only [Nc.sumN, ih, Int.mul_add]
theorem Nc.sumN_zero (n : Nat) : Nc.sumN (fun _ => 0) n = 0 := by
  induction n with
  | zero => rfl
  | succ n ih => simp only [Nc.sumN, ih]; rfl
theorem Nc.sumN_swap (f : Nat → Nat → Int) (m n : Nat) : Nc.sumN (fun i => Nc.sumN (f i) n) m = Nc.sumN (fun j => Nc.sumN (fun i => f i j) m) n := by
  induction m with
  | zero => simp only [Nc.sumN]; exact (Nc.sumN_zero n).symm
  | succ m ih => rw [Nc.sumN, ih, ← Nc.sumN_add]; rfl
theorem Nc.sumN_mod (f : Nat → Int) (p : Int) (n : Nat) : Nc.sumN (fun i => f i % p) n % p = Nc.sumN f n % p := by
  induction n with
  | zero => rfl
  | succ n ih => simp only [Nc.sumN]; rw [Int.add_emod, ih, Int.emod_emod, ← Int.add_emod]
theorem Nc.sumN_congr_mod {f g : Nat → Int} {p : Int} {n : Nat} (h : ∀ i, i < n → f i % p = g i % p) : Nc.sumN f n % p = Nc.sumN g n % p := by
  rw [← Nc.sumN_mod f, ← Nc.sumN_mod g, Nc.sumN_congr h]
theorem Nc.sumN_none {f : Nat → Int} {k n : Nat} (hk : n ≤ k) : Nc.sumN (fun i => if i = k then f i else 0) n = 0 := by
  induction n with
  | zero => rfl
  | succ n ih => rw [Nc.sumN, ih (by omega), if_neg (by omega)]; rfl
theorem Nc.sumN_one {f : Nat → Int} {k n : Nat} (hk : k < n) : Nc.sumN (fun i => if i = k then f i else 0) n = f k := by
  induction n with
  | zero => omega
  | succ n ih =>
    rw [Nc.sumN]
    by_cases h : k < n
    · rw [ih h, if_neg (by omega)]; omega
    · obtain rfl : k = n := by omega
      rw [Nc.sumN_none (Nat.le_refl _), if_pos rfl]; omega

/-- The list f 0, .., f (n - 1). -/
def Nc.tab (n : Nat) (f : Nat → Int) : List Int := (List.range n).map f
def Nc.tabM (m n : Nat) (f : Nat → Nat → Int) : List (List Int) := (List.range m).map fun i => Nc.tab n (f i)
theorem Nc.tab_len (n : Nat) (f : Nat → Int) : (Nc.tab n f).length = n := by simp [Nc.tab]
theorem Nc.tab_at {n j : Nat} {f : Nat → Int} (h : j < n) : (Nc.tab n f)[j]? = some (f j) := by simp [Nc.tab, h]
theorem Nc.tab_ext {n : Nat} {f g : Nat → Int} (h : ∀ i, i < n → f i = g i) : Nc.tab n f = Nc.tab n g :=
  List.map_congr_left fun i hi => h i (List.mem_range.1 hi)
theorem Nc.tab_of {n : Nat} {xs : List Int} (h : xs.length = n) : xs = Nc.tab n (fun j => xs.getD j 0) := by
  apply List.ext_getElem?
  intro j
  by_cases hj : j < n
  · rw [Nc.tab_at hj, List.getD_eq_getElem?_getD, List.getElem?_eq_getElem (by omega)]; rfl
  · rw [List.getElem?_eq_none (by omega), List.getElem?_eq_none (by rw [Nc.tab_len]; omega)]
theorem Nc.eq_tab {n : Nat} {xs : List Int} {f : Nat → Int} (h : xs.length = n) (h2 : ∀ j, j < n → xs[j]? = some (f j)) : xs = Nc.tab n f := by
  apply List.ext_getElem?
  intro j
  by_cases hj : j < n
  · rw [h2 j hj, Nc.tab_at hj]
  · rw [List.getElem?_eq_none (by omega), List.getElem?_eq_none (by rw [Nc.tab_len]; omega)]
theorem Nc.tab_mem {n : Nat} {f : Nat → Int} {P : Int → Prop} (h : ∀ i, i < n → P (f i)) : ∀ x ∈ Nc.tab n f, P x := by
  intro x hx
  obtain ⟨i, hi, rfl⟩ := List.mem_map.1 hx
  exact h i (List.mem_range.1 hi)
theorem Nc.tab_vec {n : Nat} {f : Nat → Int} (hn : n ≤ 40) (h : ∀ i, i < n → 0 ≤ f i ∧ f i ≤ 1018) : Nc.vecB (Nc.tab n f) = true :=
  Nc.vecB_mk (Nc.tab_mem h) (by rw [Nc.tab_len]; exact hn)
theorem Nc.tab_get {n : Nat} {xs : List Int} (h : Nc.vecB xs = true) (hn : xs.length = n) : ∀ i, i < n → 0 ≤ xs.getD i 0 ∧ xs.getD i 0 ≤ 1018 := by
  intro i hi
  rw [List.getD_eq_getElem?_getD, List.getElem?_eq_getElem (by omega)]
  exact Nc.vecB_el h _ (List.getElem_mem _)
theorem Nc.addR_tab {n : Nat} {xs ys : List Int} {f g : Nat → Int} (hx : xs = Nc.tab n f) (hy : ys = Nc.tab n g) (k : Int) : Nc.addR xs ys k = Nc.tab n (fun j => (f j + g j * k) % 1019) := by
  subst hx hy
  exact Nc.eq_tab (by rw [Nc.addR_len, Nc.tab_len, Nc.tab_len]; omega) (fun j hj => Nc.addR_at (Nc.tab_at hj) (Nc.tab_at hj))
theorem Nc.scale_tab (n : Nat) (f : Nat → Int) (k : Int) : (Nc.tab n f).map (fun x => x * k % 1019) = Nc.tab n (fun j => f j * k % 1019) := by simp [Nc.tab]
theorem Nc.dotS_tab (n : Nat) (f g : Nat → Int) : Nc.dotS (Nc.tab n f) (Nc.tab n g) = Nc.sumN (fun j => f j * g j) n := by
  induction n with
  | zero => rfl
  | succ n ih =>
    have e : ∀ h : Nat → Int, Nc.tab (n + 1) h = Nc.tab n h ++ [h n] := fun h => by simp [Nc.tab, List.range_succ]
    unfold Nc.dotS at ih ⊢
    rw [e f, e g, List.zipWith_append (by rw [Nc.tab_len, Nc.tab_len]), List.sum_append, ih, Nc.sumN]
    simp

/-- The first k rows combined, entry by entry. -/
theorem Nc.combTo_tab {rows : List (List Int)} {cs : List Int} {n : Nat} {f : Nat → Nat → Int} {g : Nat → Int} (k : Nat) (hr : ∀ i, i < k → rows[i]? = some (Nc.tab n (f i))) (hc : ∀ i, i < k → cs[i]? = some (g i)) :
    Nc.combTo rows cs n k = Nc.tab n (fun j => Nc.sumN (fun i => f i j * g i) k % 1019) := by
  induction k with
  | zero =>
    refine Nc.eq_tab (by simp [Nc.combTo]) (fun j hj => ?_)
    simp [Nc.combTo, Nc.sumN, hj]
  | succ k ih =>
    rw [Nc.combTo_next (hr k (by omega)) (hc k (by omega)), ih (fun i hi => hr i (by omega)) (fun i hi => hc i (by omega)), Nc.addR_tab rfl rfl]
    refine Nc.tab_ext fun j _ => ?_
    rw [Int.add_emod, Int.emod_emod, ← Int.add_emod]; rfl

/-! Vectors -/
theorem Nc.pairB_mk {xs ys : List Int} (hx : Nc.vecB xs = true) (hy : Nc.vecB ys = true) (h : xs.length = ys.length) : Nc.pairB xs ys = true := by
  simp [Nc.pairB, hx, hy, h]
theorem Nc.addL_yes {xs ys : List Int} {k : Int} (hx : Nc.vecB xs = true) (hy : Nc.vecB ys = true) (h : xs.length = ys.length) (hk : Nc.elB k = true) : Nc.addL xs ys k = Nc.addR xs ys k := by
  simp [Nc.addL, Nc.pairB_mk hx hy h, hk]
theorem Nc.addL_no {xs ys : List Int} {k : Int} (h : Nc.vecB xs = false ∨ Nc.vecB ys = false ∨ xs.length ≠ ys.length ∨ Nc.elB k = false) : Nc.addL xs ys k = [] := by
  rcases h with h | h | h | h <;> simp [Nc.addL, Nc.pairB, h]
theorem Nc.addR_vec {xs ys : List Int} (k : Int) (hx : Nc.vecB xs = true) : Nc.vecB (Nc.addR xs ys k) = true :=
  Nc.vecB_mk (Nc.addR_el _ _ _) (by have := Nc.vecB_len hx; rw [Nc.addR_len]; omega)
theorem Nc.scaleL_yes {xs : List Int} {k : Int} (hx : Nc.vecB xs = true) (hk : Nc.elB k = true) : Nc.scaleL xs k = xs.map (fun x => x * k % 1019) := by
  simp [Nc.scaleL, hx, hk]
theorem Nc.scale_vec {xs : List Int} (k : Int) (hx : Nc.vecB xs = true) : Nc.vecB (xs.map (fun x => x * k % 1019)) = true := by
  refine Nc.vecB_mk (fun y hy => ?_) (by have := Nc.vecB_len hx; simpa using this)
  obtain ⟨x, _, rfl⟩ := List.mem_map.1 hy
  omega
theorem Nc.dotV_yes {xs ys : List Int} (hx : Nc.vecB xs = true) (hy : Nc.vecB ys = true) (h : xs.length = ys.length) : Nc.dotV xs ys = Nc.dotS xs ys % 1019 := by
  simp [Nc.dotV, Nc.pairB_mk hx hy h]
section
variable {a b v : List Int} {k : Int}
theorem Nc.vec_two (ha : Nc.vecB a = true) (hb : Nc.vecB b = true) (h : a.length = b.length) (hk : Nc.elB k = true) : Nc.addL a (Nc.scaleL b k) 1 = Nc.addR a b k := by
  rw [Nc.scaleL_yes hb hk, Nc.addL_yes ha (Nc.scale_vec k hb) (by simpa using h) (by decide)]
  rw [Nc.tab_of (xs := a) rfl, Nc.tab_of (xs := b) h.symm, Nc.scale_tab, Nc.addR_tab rfl rfl, Nc.addR_tab rfl rfl]
  refine Nc.tab_ext fun j _ => ?_
  rw [Int.mul_one, Int.add_emod, Int.emod_emod, ← Int.add_emod]
theorem Nc.vec_back (ha : Nc.vecB a = true) (hb : Nc.vecB b = true) (h : a.length = b.length) (hk : Nc.elB k = true) : Nc.addL (Nc.addR a b k) b (Nc.subF 0 k) = a := by
  obtain ⟨k0, k1⟩ := Nc.inB_true hk
  have hs : Nc.subF 0 k = (0 + 1019 - k) % 1019 := by simp only [Nc.subF, show Nc.elB 0 = true from by decide, hk, Bool.and_self, if_true]
  rw [Nc.addL_yes (Nc.addR_vec k ha) hb (by rw [Nc.addR_len]; omega) (by rw [hs]; exact Nc.inB_of (by omega) (by omega)), hs]
  have hg := Nc.tab_get ha rfl
  conv => rhs; rw [Nc.tab_of (xs := a) rfl]
  rw [Nc.tab_of (xs := a) rfl, Nc.tab_of (xs := b) h.symm, Nc.addR_tab rfl rfl, Nc.addR_tab rfl rfl]
  rw [← Nc.tab_of (xs := a) rfl]
  refine Nc.tab_ext fun j hj => ?_
  have hj' := hg j hj
  rw [Int.add_emod, Int.emod_emod, Int.mul_emod, Int.emod_emod, ← Int.mul_emod, ← Int.add_emod, Int.add_assoc, ← Int.mul_add, show k + (0 + 1019 - k) = 1019 by omega]
  omega
theorem Nc.vec_dot (ha : Nc.vecB a = true) (hb : Nc.vecB b = true) (hv : Nc.vecB v = true) (h : a.length = b.length) (h2 : v.length = a.length) (hk : Nc.elB k = true) :
    Nc.dotV (Nc.addR a b k) v = Nc.addF (Nc.dotV a v) (Nc.mulF k (Nc.dotV b v)) := by
  rw [Nc.dotV_yes (Nc.addR_vec k ha) hv (by rw [Nc.addR_len]; omega), Nc.dotV_yes ha hv (by omega), Nc.dotV_yes hb hv (by omega)]
  have em : ∀ x : Int, Nc.elB (x % 1019) = true := fun x => Nc.inB_of (by omega) (by omega)
  have e1 : ∀ x y : Int, Nc.mulF k (x % 1019) = k * (x % 1019) % 1019 := fun x y => by simp only [Nc.mulF, hk, em, Bool.and_self, if_true]
  rw [e1 _ 0, show ∀ x y : Int, Nc.addF (x % 1019) (y % 1019) = (x % 1019 + y % 1019) % 1019 from fun x y => by simp only [Nc.addF, em, Bool.and_self, if_true]]
  rw [← Int.add_emod, Nc.tab_of (xs := a) rfl, Nc.tab_of (xs := b) h.symm, Nc.tab_of (xs := v) h2, Nc.addR_tab rfl rfl, Nc.dotS_tab, Nc.dotS_tab, Nc.dotS_tab]
  rw [Int.add_emod, Int.mul_emod, Int.emod_emod, ← Int.mul_emod, ← Int.add_emod, ← Nc.sumN_mull, ← Nc.sumN_add]
  refine Nc.sumN_congr_mod fun i _ => ?_
  rw [Int.mul_emod, Int.emod_emod, ← Int.mul_emod, Int.add_mul]
  congr 2
  rw [Int.mul_comm (b.getD i 0) k, Int.mul_assoc]
theorem Nc.dot_comm (xs ys : List Int) : Nc.dotV xs ys = Nc.dotV ys xs := by
  unfold Nc.dotV Nc.dotS Nc.pairB
  rw [List.zipWith_comm, show (fun x y : Int => y * x) = fun x y => x * y from by funext x y; exact Int.mul_comm y x]
  rw [Bool.and_comm (Nc.vecB xs), show decide (xs.length = ys.length) = decide (ys.length = xs.length) by congr 1; exact propext eq_comm]
theorem Nc.lead_zero (zs : List Int) (h : ∀ x ∈ zs, x = 0) : Nc.lead zs = -1 := by
  have : ∀ (l : List Int) (i : Nat), (∀ x ∈ l, x = 0) → Nc.leadFrom l i = -1 := by
    intro l
    induction l with
    | nil => intro i _; rfl
    | cons x l ih => intro i h; rw [Nc.leadFrom, h x (by simp), if_neg (by decide)]; exact ih _ (fun y hy => h y (by simp [hy]))
  exact this zs 0 h
theorem Nc.vec_lead (ha : Nc.vecB a = true) : Nc.lead (Nc.addL a a 1018) = -1 := by
  rw [Nc.addL_yes ha ha rfl (by decide), Nc.tab_of (xs := a) rfl, Nc.addR_tab rfl rfl]
  refine Nc.lead_zero _ (Nc.tab_mem fun i _ => ?_)
  omega
end

/-! Combinations -/
theorem Nc.rows_tab {rows : List (List Int)} {q i : Nat} (h : ∀ r ∈ rows, r.length = q) (hi : i < rows.length) : rows[i]? = some (Nc.tab q (fun j => (rows.getD i []).getD j 0)) := by
  have e : rows[i]? = some rows[i] := List.getElem?_eq_getElem hi
  have e2 : rows.getD i [] = rows[i] := by rw [List.getD_eq_getElem?_getD, e]; rfl
  rw [e, e2, ← Nc.tab_of (h _ (List.mem_of_getElem? e))]
theorem Nc.get_some {xs : List Int} {i : Nat} (hi : i < xs.length) : xs[i]? = some (xs.getD i 0) := by
  rw [List.getD_eq_getElem?_getD, List.getElem?_eq_getElem hi]; rfl
theorem Nc.combL_no {rows : List (List Int)} {cs : List Int} (h : Nc.combB rows cs = false) : Nc.combL rows cs = [] := by simp [Nc.combL, h]
theorem Nc.combB_mk {rows : List (List Int)} {cs ds : List Int} (h : Nc.combB rows cs = true) (hd : Nc.vecB ds = true) (hl : ds.length = cs.length) : Nc.combB rows ds = true := by
  simp only [Nc.combB, Bool.and_eq_true, decide_eq_true_eq] at h ⊢
  exact ⟨⟨⟨h.1.1.1, by omega⟩, hd⟩, h.2⟩
theorem Nc.combL_tab {rows : List (List Int)} {cs : List Int} (h : Nc.combB rows cs = true) :
    Nc.combL rows cs = Nc.tab (Nc.cols rows) (fun j => Nc.sumN (fun i => (rows.getD i []).getD j 0 * cs.getD i 0) rows.length % 1019) := by
  have hrow := Nc.combB_row h
  rw [Nc.combL, if_pos h]
  simp only [Nc.combB, Bool.and_eq_true, decide_eq_true_eq] at h
  exact Nc.combTo_tab _ (fun i hi => Nc.rows_tab (fun r hr => (hrow r hr).2) hi) (fun i hi => Nc.get_some (by omega))
theorem Nc.combL_vec {rows : List (List Int)} {cs : List Int} (h : Nc.combB rows cs = true) : Nc.vecB (Nc.combL rows cs) = true := by
  have hrow := Nc.combB_row h
  rw [Nc.combL_tab h]
  refine Nc.tab_vec ?_ (fun i _ => by omega)
  simp only [Nc.combB, Bool.and_eq_true, decide_eq_true_eq] at h
  cases rows with
  | nil => simp at h
  | cons r t => exact Nc.vecB_len (hrow r (by simp)).1
theorem Nc.unitL_yes {n : Nat} {k : Int} (hn : n ≤ 40) (k0 : 0 ≤ k) (k1 : k < n) : Nc.unitL n k = Nc.tab n (fun i : Nat => if (i : Int) = k then 1 else 0) := by
  rw [Nc.unitL, Nc.unitB, Nc.inB_of (show (0 : Int) ≤ n by omega) (by omega), Nc.inB_of k0 (show k ≤ (n : Int) - 1 by omega)]
  rfl
section
variable {l : List (List Int)} {c d : List Int}
theorem Nc.comb_unit (h : Nc.combB l c = true) {k : Nat} (hk : k < l.length) : Nc.combL l (Nc.unitL l.length k) = l.getD k [] := by
  have hrow := Nc.combB_row h
  have h' := h
  simp only [Nc.combB, Bool.and_eq_true, decide_eq_true_eq] at h'
  have hl40 : l.length ≤ 40 := by have := Nc.vecB_len h'.1.2; omega
  have hu := Nc.unitL_yes (n := l.length) (k := (k : Int)) hl40 (by omega) (by omega)
  have hb : Nc.combB l (Nc.unitL l.length k) = true := Nc.combB_mk h (by rw [hu]; exact Nc.tab_vec hl40 (fun i _ => by split <;> omega)) (by rw [hu, Nc.tab_len]; omega)
  rw [Nc.combL_tab hb, hu]
  have hkr : l[k]? = some l[k] := List.getElem?_eq_getElem hk
  have hkd : l.getD k [] = l[k] := by rw [List.getD_eq_getElem?_getD, hkr]; rfl
  have hm := hrow l[k] (List.getElem_mem _)
  conv => rhs; rw [hkd, Nc.tab_of hm.2]
  refine Nc.tab_ext fun j hj => ?_
  have hg := Nc.tab_get hm.1 hm.2 j hj
  rw [Nc.sumN_congr (g := fun i => if i = k then (l.getD i []).getD j 0 else 0) (fun i hi => ?_), Nc.sumN_one hk, hkd]
  · omega
  · have e : (Nc.tab l.length (fun i : Nat => if (i : Int) = (k : Int) then 1 else 0)).getD i 0 = if i = k then 1 else 0 := by
      rw [List.getD_eq_getElem?_getD, Nc.tab_at hi]
      by_cases hik : i = k
      · simp [hik]
      · have h2 : ¬ (i : Int) = (k : Int) := by omega
        simp [hik, h2]
    rw [e]
    by_cases hik : i = k
    · simp [hik]
    · simp [hik]
theorem Nc.comb_add (h : Nc.combB l c = true) (hd : Nc.vecB d = true) (hl : d.length = c.length) : Nc.combL l (Nc.addL c d 1) = Nc.addL (Nc.combL l c) (Nc.combL l d) 1 := by
  have h' := h
  simp only [Nc.combB, Bool.and_eq_true, decide_eq_true_eq] at h'
  have hbd := Nc.combB_mk h hd hl
  have e1 := Nc.addL_yes (k := 1) h'.1.2 hd hl.symm (by decide)
  rw [e1]
  have hbs : Nc.combB l (Nc.addR c d 1) = true := Nc.combB_mk h (Nc.addR_vec 1 h'.1.2) (by rw [Nc.addR_len]; omega)
  rw [Nc.addL_yes (Nc.combL_vec h) (Nc.combL_vec hbd) (by rw [Nc.combL_tab h, Nc.combL_tab hbd, Nc.tab_len, Nc.tab_len]) (by decide)]
  rw [Nc.combL_tab hbs, Nc.combL_tab h, Nc.combL_tab hbd, Nc.addR_tab rfl rfl]
  refine Nc.tab_ext fun j _ => ?_
  rw [Int.mul_one, ← Int.add_emod, ← Nc.sumN_add]
  refine Nc.sumN_congr_mod fun i hi => ?_
  have e2 : (Nc.addR c d 1).getD i 0 = (c.getD i 0 + d.getD i 0 * 1) % 1019 := by
    rw [List.getD_eq_getElem?_getD, Nc.addR_at (Nc.get_some (by omega)) (Nc.get_some (by omega))]; rfl
  rw [e2, Int.mul_emod, Int.emod_emod, ← Int.mul_emod, Int.mul_one, Int.mul_add]
theorem Nc.comb_scale (h : Nc.combB l c = true) {k : Int} (hk : Nc.elB k = true) : Nc.combL l (Nc.scaleL c k) = Nc.scaleL (Nc.combL l c) k := by
  have h' := h
  simp only [Nc.combB, Bool.and_eq_true, decide_eq_true_eq] at h'
  rw [Nc.scaleL_yes h'.1.2 hk, Nc.scaleL_yes (Nc.combL_vec h) hk]
  have hbs : Nc.combB l (c.map (fun x => x * k % 1019)) = true := Nc.combB_mk h (Nc.scale_vec k h'.1.2) (by simp)
  rw [Nc.combL_tab hbs, Nc.combL_tab h, Nc.scale_tab]
  refine Nc.tab_ext fun j _ => ?_
  rw [Int.mul_emod (Nc.sumN _ _ % 1019), Int.emod_emod, ← Int.mul_emod, ← Nc.sumN_mulr]
  refine Nc.sumN_congr_mod fun i hi => ?_
  have e2 : (c.map (fun x => x * k % 1019)).getD i 0 = c.getD i 0 * k % 1019 := by
    rw [List.getD_eq_getElem?_getD, List.getElem?_map, Nc.get_some (show i < c.length by omega)]; rfl
  rw [e2, Int.mul_emod, Int.emod_emod, ← Int.mul_emod, Int.mul_assoc]
end

/-! Matrices -/
theorem Nc.tabM_len (m n : Nat) (f : Nat → Nat → Int) : (Nc.tabM m n f).length = m := by simp [Nc.tabM]
theorem Nc.tabM_at {m n i : Nat} {f : Nat → Nat → Int} (h : i < m) : (Nc.tabM m n f)[i]? = some (Nc.tab n (f i)) := by simp [Nc.tabM, h]
theorem Nc.tabM_ext {m n : Nat} {f g : Nat → Nat → Int} (h : ∀ i j, i < m → j < n → f i j = g i j) : Nc.tabM m n f = Nc.tabM m n g :=
  List.map_congr_left fun i hi => Nc.tab_ext fun j hj => h i j (List.mem_range.1 hi) hj
theorem Nc.cols_tabM {m n : Nat} (f : Nat → Nat → Int) (hm : 0 < m) : Nc.cols (Nc.tabM m n f) = n := by
  obtain ⟨m, rfl⟩ : ∃ k, m = k + 1 := ⟨m - 1, by omega⟩
  have e : (Nc.tabM (m + 1) n f)[0]? = some (Nc.tab n (f 0)) := Nc.tabM_at (by omega)
  cases h : Nc.tabM (m + 1) n f with
  | nil => rw [h] at e; simp at e
  | cons r t =>
    rw [h] at e
    simp at e
    rw [Nc.cols, e, Nc.tab_len]
theorem Nc.matB_mk {rows : List (List Int)} (h1 : ∀ r ∈ rows, Nc.vecB r = true ∧ r.length = Nc.cols rows) (h2 : rows.length ≤ 40) : Nc.matB rows = true := by
  simp only [Nc.matB, Bool.and_eq_true, List.all_eq_true, decide_eq_true_eq]
  refine ⟨fun r hr => ?_, h2⟩
  have := h1 r hr
  simp [Nc.rowB, this.1, this.2]
theorem Nc.matB_tabM {m n : Nat} {f : Nat → Nat → Int} (hm : m ≤ 40) (hn : n ≤ 40) (h : ∀ i j, i < m → j < n → 0 ≤ f i j ∧ f i j ≤ 1018) : Nc.matB (Nc.tabM m n f) = true := by
  refine Nc.matB_mk (fun r hr => ?_) (by rw [Nc.tabM_len]; exact hm)
  obtain ⟨i, hi, rfl⟩ := List.mem_map.1 hr
  have hi := List.mem_range.1 hi
  exact ⟨Nc.tab_vec hn (fun j hj => h i j hi hj), by rw [Nc.tab_len, Nc.cols_tabM f (by omega)]⟩
def Nc.ent (a : List (List Int)) (i j : Nat) : Int := (a.getD i []).getD j 0
theorem Nc.matB_tab {a : List (List Int)} (h : Nc.matB a = true) : a = Nc.tabM a.length (Nc.cols a) (Nc.ent a) ∧ (∀ i j, i < a.length → j < Nc.cols a → 0 ≤ Nc.ent a i j ∧ Nc.ent a i j ≤ 1018) ∧ a.length ≤ 40 := by
  have hrow := Nc.matB_row h
  refine ⟨?_, fun i j hi hj => ?_, Nc.matB_len h⟩
  · apply List.ext_getElem?
    intro i
    by_cases hi : i < a.length
    · rw [Nc.tabM_at hi, Nc.rows_tab (fun r hr => (hrow r hr).2) hi]; rfl
    · rw [List.getElem?_eq_none (by omega), List.getElem?_eq_none (by rw [Nc.tabM_len]; omega)]
  · have e : a[i]? = some a[i] := List.getElem?_eq_getElem hi
    have e2 : a.getD i [] = a[i] := by rw [List.getD_eq_getElem?_getD, e]; rfl
    have hr := hrow a[i] (List.getElem_mem _)
    unfold Nc.ent
    rw [e2]
    exact Nc.tab_get hr.1 hr.2 j hj
theorem Nc.cols_tab40 {a : List (List Int)} (h : Nc.matB a = true) : Nc.cols a ≤ 40 := by
  cases a with
  | nil => simp [Nc.cols]
  | cons r t =>
    have := Nc.matB_row h r (by simp)
    rw [← this.2]; exact Nc.vecB_len this.1
theorem Nc.trL_tabM {m n : Nat} {f : Nat → Nat → Int} (hm : 0 < m) (h : Nc.matB (Nc.tabM m n f) = true) : Nc.trL (Nc.tabM m n f) = Nc.tabM n m (fun i j => f j i) := by
  rw [Nc.trL, if_pos h, Nc.trR, Nc.cols_tabM f hm]
  refine List.map_congr_left fun k hk => ?_
  have hk := List.mem_range.1 hk
  unfold Nc.colOf
  refine Nc.eq_tab (by rw [List.length_map, Nc.tabM_len]) (fun i hi => ?_)
  rw [List.getElem?_map, Nc.tabM_at hi, Option.map_some, List.getD_eq_getElem?_getD, Nc.tab_at hk]; rfl
theorem Nc.mulL_tabM {m n q : Nat} {f g : Nat → Nat → Int} (hm : 0 < m) (hn : 0 < n) (hf : Nc.matB (Nc.tabM m n f) = true) (hg : Nc.matB (Nc.tabM n q g) = true) :
    Nc.mulL (Nc.tabM m n f) (Nc.tabM n q g) = Nc.tabM m q (fun i j => Nc.sumN (fun k => g k j * f i k) n % 1019) := by
  have hb : Nc.mulB (Nc.tabM m n f) (Nc.tabM n q g) = true := by
    simp only [Nc.mulB, hf, hg, Bool.and_eq_true, decide_eq_true_eq, true_and, Nc.cols_tabM f hm, Nc.tabM_len]
  rw [Nc.mulL, if_pos hb, Nc.mulR]
  apply List.ext_getElem?
  intro i
  by_cases hi : i < m
  · rw [List.getElem?_map, Nc.tabM_at hi, Nc.tabM_at hi, Option.map_some, Nc.mulRow, Nc.cols_tabM g hn, Nc.tabM_len, Nc.combTo_tab n (fun k hk => Nc.tabM_at hk) (fun k hk => Nc.tab_at hk)]
  · rw [List.getElem?_eq_none (by rw [List.length_map, Nc.tabM_len]; omega), List.getElem?_eq_none (by rw [Nc.tabM_len]; omega)]
theorem Nc.mulMV_tabM {m n : Nat} {f : Nat → Nat → Int} {v : Nat → Int} (hm : 0 < m) (hf : Nc.matB (Nc.tabM m n f) = true) (hv : Nc.vecB (Nc.tab n v) = true) :
    Nc.mulMV (Nc.tabM m n f) (Nc.tab n v) = Nc.tab m (fun i => Nc.sumN (fun k => f i k * v k) n % 1019) := by
  have hb : Nc.mvB (Nc.tabM m n f) (Nc.tab n v) = true := by
    simp only [Nc.mvB, hf, hv, Bool.and_eq_true, decide_eq_true_eq, true_and, Nc.cols_tabM f hm, Nc.tab_len]
  rw [Nc.mulMV, if_pos hb, Nc.mvR]
  refine Nc.eq_tab (by rw [List.length_map, Nc.tabM_len]) (fun i hi => ?_)
  rw [List.getElem?_map, Nc.tabM_at hi, Option.map_some, Nc.dotS_tab]
theorem Nc.idL_tabM {n : Nat} (hn : n ≤ 40) : Nc.idL n = Nc.tabM n n (fun i j => if j = i then 1 else 0) := by
  rw [Nc.idL, if_pos (Nc.inB_of (by omega) (by omega)), Int.toNat_natCast]
  refine List.map_congr_left fun i _ => ?_
  unfold Nc.unitTo
  refine Nc.tab_ext fun j _ => ?_
  by_cases h : j = i
  · simp [h]
  · show (if (j : Int) = (i : Int) then (1 : Int) else 0) = if j = i then 1 else 0
    rw [if_neg (by omega), if_neg h]
section
variable {a b : List (List Int)} {v : List Int}
theorem Nc.mat_tr (ha : Nc.matB a = true) (h0 : 0 < a.length) (h1 : 0 < Nc.cols a) : Nc.trL (Nc.trL a) = a := by
  obtain ⟨e, hf, h40⟩ := Nc.matB_tab ha
  have hc := Nc.cols_tab40 ha
  have hA : Nc.matB (Nc.tabM a.length (Nc.cols a) (Nc.ent a)) = true := Nc.matB_tabM h40 hc hf
  have hT : Nc.matB (Nc.tabM (Nc.cols a) a.length (fun i j => Nc.ent a j i)) = true := Nc.matB_tabM hc h40 (fun i j hi hj => hf j i hj hi)
  have e1 : Nc.trL a = Nc.tabM (Nc.cols a) a.length (fun i j => Nc.ent a j i) := (congrArg Nc.trL e).trans (Nc.trL_tabM h0 hA)
  rw [e1, Nc.trL_tabM h1 hT]
  exact e.symm
theorem Nc.id_mat {n : Nat} (hn : n ≤ 40) : Nc.matB (Nc.tabM n n (fun i j => if j = i then 1 else 0)) = true :=
  Nc.matB_tabM hn hn (fun i j _ _ => by split <;> omega)
theorem Nc.mat_id_r (ha : Nc.matB a = true) (h0 : 0 < a.length) (h1 : 0 < Nc.cols a) : Nc.mulL a (Nc.idL (Nc.cols a)) = a := by
  obtain ⟨e, hf, h40⟩ := Nc.matB_tab ha
  have hc := Nc.cols_tab40 ha
  have hA : Nc.matB (Nc.tabM a.length (Nc.cols a) (Nc.ent a)) = true := Nc.matB_tabM h40 hc hf
  rw [Nc.idL_tabM hc]
  refine (congrArg (fun x => Nc.mulL x _) e).trans ?_
  rw [Nc.mulL_tabM h0 h1 hA (Nc.id_mat hc)]
  refine Eq.trans (Nc.tabM_ext fun i j hi hj => ?_) e.symm
  rw [Nc.sumN_congr (g := fun k => if k = j then Nc.ent a i k else 0) (fun k _ => ?_), Nc.sumN_one hj]
  · have := hf i j hi hj; omega
  · by_cases h : j = k
    · subst h; simp
    · rw [if_neg h, if_neg (fun e => h e.symm), Int.zero_mul]
theorem Nc.mat_id_l (ha : Nc.matB a = true) (h0 : 0 < a.length) : Nc.mulL (Nc.idL a.length) a = a := by
  obtain ⟨e, hf, h40⟩ := Nc.matB_tab ha
  have hc := Nc.cols_tab40 ha
  have hA : Nc.matB (Nc.tabM a.length (Nc.cols a) (Nc.ent a)) = true := Nc.matB_tabM h40 hc hf
  rw [Nc.idL_tabM h40]
  refine (congrArg (fun x => Nc.mulL _ x) e).trans ?_
  rw [Nc.mulL_tabM h0 h0 (Nc.id_mat h40) hA]
  refine Eq.trans (Nc.tabM_ext fun i j hi hj => ?_) e.symm
  rw [Nc.sumN_congr (g := fun k => if k = i then Nc.ent a k j else 0) (fun k _ => ?_), Nc.sumN_one hi]
  · have := hf i j hi hj; omega
  · by_cases h : k = i
    · subst h; simp
    · rw [if_neg h, if_neg h, Int.mul_zero]
theorem Nc.mulL_tab (ha : Nc.matB a = true) (hb : Nc.matB b = true) (hab : Nc.cols a = b.length) (h0 : 0 < a.length) (h1 : 0 < b.length) :
    Nc.mulL a b = Nc.tabM a.length (Nc.cols b) (fun i j => Nc.sumN (fun k => Nc.ent b k j * Nc.ent a i k) b.length % 1019) := by
  obtain ⟨e, hf, h40⟩ := Nc.matB_tab ha
  obtain ⟨e2, hf2, h402⟩ := Nc.matB_tab hb
  have hc := Nc.cols_tab40 ha
  have hc2 := Nc.cols_tab40 hb
  have hA : Nc.matB (Nc.tabM a.length (Nc.cols a) (Nc.ent a)) = true := Nc.matB_tabM h40 hc hf
  have hB : Nc.matB (Nc.tabM b.length (Nc.cols b) (Nc.ent b)) = true := Nc.matB_tabM h402 hc2 hf2
  have e3 : Nc.mulL a b = Nc.mulL (Nc.tabM a.length (Nc.cols a) (Nc.ent a)) (Nc.tabM b.length (Nc.cols b) (Nc.ent b)) := by rw [← e, ← e2]
  rw [e3]
  rw [hab] at hA ⊢
  exact Nc.mulL_tabM h0 h1 hA hB
theorem Nc.mulL_mat (ha : Nc.matB a = true) (hb : Nc.matB b = true) : Nc.matB (Nc.tabM a.length (Nc.cols b) (fun i j => Nc.sumN (fun k => Nc.ent b k j * Nc.ent a i k) b.length % 1019)) = true :=
  Nc.matB_tabM (Nc.matB_len ha) (Nc.cols_tab40 hb) (fun i j _ _ => by omega)
theorem Nc.mat_assoc (ha : Nc.matB a = true) (hb : Nc.matB b = true) (hab : Nc.cols a = b.length) (h0 : 0 < a.length) (h1 : 0 < b.length) (hv : Nc.vecB v = true) (hl : v.length = Nc.cols b) :
    Nc.mulMV (Nc.mulL a b) v = Nc.mulMV a (Nc.mulMV b v) := by
  obtain ⟨e, hf, h40⟩ := Nc.matB_tab ha
  obtain ⟨e2, hf2, h402⟩ := Nc.matB_tab hb
  have hc := Nc.cols_tab40 ha
  have hc2 := Nc.cols_tab40 hb
  have hA : Nc.matB (Nc.tabM a.length b.length (Nc.ent a)) = true := by rw [← hab]; exact Nc.matB_tabM h40 hc hf
  have hB : Nc.matB (Nc.tabM b.length (Nc.cols b) (Nc.ent b)) = true := Nc.matB_tabM h402 hc2 hf2
  have hvt := Nc.tab_of hl
  have hV : Nc.vecB (Nc.tab (Nc.cols b) (fun j => v.getD j 0)) = true := by rw [← hvt]; exact hv
  have e3 : Nc.mulMV b v = Nc.tab b.length (fun i => Nc.sumN (fun k => Nc.ent b i k * v.getD k 0) (Nc.cols b) % 1019) := by
    have : Nc.mulMV b v = Nc.mulMV (Nc.tabM b.length (Nc.cols b) (Nc.ent b)) (Nc.tab (Nc.cols b) (fun j => v.getD j 0)) := by rw [← e2, ← hvt]
    rw [this]; exact Nc.mulMV_tabM h1 hB hV
  have e4 : Nc.mulMV a (Nc.mulMV b v) = Nc.tab a.length (fun i => Nc.sumN (fun k => Nc.ent a i k * (Nc.sumN (fun j => Nc.ent b k j * v.getD j 0) (Nc.cols b) % 1019)) b.length % 1019) := by
    have : Nc.mulMV a (Nc.mulMV b v) = Nc.mulMV (Nc.tabM a.length b.length (Nc.ent a)) (Nc.mulMV b v) := by rw [← hab, ← e]
    rw [this, e3]
    exact Nc.mulMV_tabM h0 hA (Nc.tab_vec h402 (fun i _ => by omega))
  have e5 : Nc.mulMV (Nc.mulL a b) v = Nc.tab a.length (fun i => Nc.sumN (fun j => Nc.sumN (fun k => Nc.ent b k j * Nc.ent a i k) b.length % 1019 * v.getD j 0) (Nc.cols b) % 1019) := by
    have : Nc.mulMV (Nc.mulL a b) v = Nc.mulMV (Nc.mulL a b) (Nc.tab (Nc.cols b) (fun j => v.getD j 0)) := by rw [← hvt]
    rw [this, Nc.mulL_tab ha hb hab h0 h1]
    exact Nc.mulMV_tabM h0 (Nc.mulL_mat ha hb) hV
  rw [e4, e5]
  refine Nc.tab_ext fun i _ => ?_
  rw [Nc.sumN_congr_mod (g := fun j => Nc.sumN (fun k => Nc.ent b k j * Nc.ent a i k * v.getD j 0) b.length) (fun j _ => by rw [Int.mul_emod, Int.emod_emod, ← Int.mul_emod, Nc.sumN_mulr])]
  rw [Nc.sumN_congr_mod (g := fun k => Nc.sumN (fun j => Nc.ent b k j * Nc.ent a i k * v.getD j 0) (Nc.cols b)) (n := b.length) (fun k _ => ?_)]
  · rw [Nc.sumN_swap]
  · rw [Int.mul_emod, Int.emod_emod, ← Int.mul_emod, ← Nc.sumN_mull]
    congr 1
    refine Nc.sumN_congr fun j _ => ?_
    rw [Int.mul_comm (Nc.ent b k j) (Nc.ent a i k), Int.mul_assoc]
theorem Nc.mat_trmul (ha : Nc.matB a = true) (hb : Nc.matB b = true) (hab : Nc.cols a = b.length) (h0 : 0 < a.length) (h1 : 0 < b.length) (h2 : 0 < Nc.cols b) :
    Nc.trL (Nc.mulL a b) = Nc.mulL (Nc.trL b) (Nc.trL a) := by
  obtain ⟨e, hf, h40⟩ := Nc.matB_tab ha
  obtain ⟨e2, hf2, h402⟩ := Nc.matB_tab hb
  have hc := Nc.cols_tab40 ha
  have hc2 := Nc.cols_tab40 hb
  have hA : Nc.matB (Nc.tabM a.length (Nc.cols a) (Nc.ent a)) = true := Nc.matB_tabM h40 hc hf
  have hB : Nc.matB (Nc.tabM b.length (Nc.cols b) (Nc.ent b)) = true := Nc.matB_tabM h402 hc2 hf2
  have t1 : Nc.trL a = Nc.tabM (Nc.cols a) a.length (fun i j => Nc.ent a j i) := (congrArg Nc.trL e).trans (Nc.trL_tabM h0 hA)
  have t2 : Nc.trL b = Nc.tabM (Nc.cols b) b.length (fun i j => Nc.ent b j i) := (congrArg Nc.trL e2).trans (Nc.trL_tabM h1 hB)
  rw [Nc.mulL_tab ha hb hab h0 h1, Nc.trL_tabM h0 (Nc.mulL_mat ha hb), t1, t2, hab]
  rw [Nc.mulL_tabM h2 h1 (Nc.matB_tabM hc2 h402 (fun i j hi hj => hf2 j i hj hi)) (Nc.matB_tabM h402 h40 (fun i j hi hj => hf j i hj (by rw [hab]; exact hi)))]
  refine Nc.tabM_ext fun i j _ _ => ?_
  congr 1
  refine Nc.sumN_congr fun k _ => ?_
  exact Int.mul_comm _ _
theorem Nc.mulL_no (h : Nc.matB a = false ∨ Nc.matB b = false ∨ Nc.cols a ≠ b.length) : Nc.mulL a b = [] := by
  rcases h with h | h | h <;> simp [Nc.mulL, Nc.mulB, h]
theorem Nc.mulL_length (h : Nc.mulB a b = true) : (Nc.mulL a b).length = a.length := by simp [Nc.mulL, h, Nc.mulR]
end

end Go.Proofs.Ytnobbojjhehdfaa
