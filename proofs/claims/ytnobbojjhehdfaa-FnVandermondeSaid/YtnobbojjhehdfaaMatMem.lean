/- Words for slices of slices. No function of the program in sight. Conditions: stated with each theorem. -/
import Derived.Test.YtnobbojjhehdfaaMem
import Derived.Lib.Hide
namespace Go.Proofs.Ytnobbojjhehdfaa
open Go.RowKit
set_option maxRecDepth 100000

/-- A slice of slices of integers that reads as rows, all of it in blocks below B. -/
def RdM (w : World) (B : Nat) (A : Option Addr) (n : Nat) (rows : List (List Int)) : Prop :=
  ∃ vs : List Value, Rd w B A n vs ∧ vs.length = rows.length ∧
    ∀ (j : Nat) (v : Value) (xs : List Int), vs[j]? = some v → rows[j]? = some xs → ∃ Aj nj cj, v = .slice Aj nj cj ∧ nj ≤ cj ∧ cj ≤ 9223372036854775807 ∧ Rd w B Aj nj (xs.map (.int .i64))

section
variable {w w' : World} {B B' n : Nat} {A : Option Addr} {rows : List (List Int)}
theorem RdM.len (h : RdM w B A n rows) : rows.length = n := by
  obtain ⟨vs, h1, h2, _⟩ := h
  rw [← h2, h1.1]
theorem RdM.at_ {j : Nat} (h : RdM w B A n rows) (hj : j < n) :
    ∃ b o Aj nj cj xs, A = some ⟨b, o, none⟩ ∧ b < B ∧ rows[j]? = some xs ∧ w.cell? ⟨b, o + j, none⟩ = some (.slice Aj nj cj) ∧ nj ≤ cj ∧ cj ≤ 9223372036854775807 ∧ Rd w B Aj nj (xs.map (.int .i64)) := by
  have hl := h.len
  obtain ⟨vs, h1, h2, h3⟩ := h
  obtain ⟨b, o, u, hA, hb, hu, hc⟩ := h1.at_ hj
  have hr : rows[j]? = some rows[j] := List.getElem?_eq_getElem (by omega)
  obtain ⟨Aj, nj, cj, rfl, hn, hc63, hrd⟩ := h3 j u _ hu hr
  exact ⟨b, o, Aj, nj, cj, _, hA, hb, hr, hc, hn, hc63, hrd⟩
theorem RdM.keep (h : RdM w B A n rows) (hk : ∀ p : Addr, p.block < B → w'.cell? p = w.cell? p) : RdM w' B A n rows := by
  obtain ⟨vs, h1, h2, h3⟩ := h
  refine ⟨vs, h1.keep hk, h2, fun j v xs hv hx => ?_⟩
  obtain ⟨Aj, nj, cj, e, hn, hc, hr⟩ := h3 j v xs hv hx
  exact ⟨Aj, nj, cj, e, hn, hc, hr.keep hk⟩
theorem RdM.more (h : RdM w B A n rows) (hB : B ≤ B') : RdM w B' A n rows := by
  obtain ⟨vs, h1, h2, h3⟩ := h
  refine ⟨vs, h1.more hB, h2, fun j v xs hv hx => ?_⟩
  obtain ⟨Aj, nj, cj, e, hn, hc, hr⟩ := h3 j v xs hv hx
  exact ⟨Aj, nj, cj, e, hn, hc, hr.more hB⟩
theorem RdM.below {C : Nat} (h : RdM w B A n rows) (hb : Below C w w') (hB : B ≤ C) : RdM w' B A n rows := h.keep fun _ hp => hb.cell (by omega)
theorem RdM.grown {row : Option Nat} (h : RdM w B A n rows) (hg : w.grownBy w' row) (hB : B ≤ w.heap.size) (hr : ∀ g, row = some g → B ≤ g) : RdM w' B A n rows :=
  h.keep fun p hp => World.cell?_of_block (hg.block p.block (by omega) (fun e => by have := hr _ e.symm; omega))
theorem RdM.nil : RdM w B A 0 [] := ⟨[], Rd.nil, rfl, fun j v xs hv => by simp at hv⟩
end

theorem flat_next {rows : List (List Int)} {j : Nat} {xs : List Int} (h : rows[j]? = some xs) : (rows.take (j + 1)).flatten = (rows.take j).flatten ++ xs := by
  rw [take_next h, List.flatten_append]; simp

/-- A row's slice value. -/
def slv (r : Option Addr × Nat × Nat) : Value := .slice r.1 r.2.1 r.2.2

/-- A slice of slices that the program made: the outer row, and the inner rows, each in a block of its own from lo on and below hi. -/
def OwnM (eI eS : TypeId) (w : World) (lo hi : Nat) (A : Option Addr) (n c : Nat) (rows : List (List Int)) : Prop :=
  ∃ rs : List (Option Addr × Nat × Nat), Own w lo hi eS A n c (rs.map slv) ∧ rs.length = rows.length ∧
    (∀ (j : Nat) (r : Option Addr × Nat × Nat) (xs : List Int), rs[j]? = some r → rows[j]? = some xs → Own w lo hi eI r.1 r.2.1 r.2.2 (xs.map (.int .i64))) ∧
    (∀ (i j : Nat) (r s : Option Addr × Nat × Nat), i < j → rs[i]? = some r → rs[j]? = some s → ∀ a b : Addr, r.1 = some a → s.1 = some b → a.block ≠ b.block)

section
variable {eI eS : TypeId} {w w' : World} {lo hi n c : Nat} {A : Option Addr} {rows : List (List Int)}
theorem Own.capm {e : TypeId} {xs : List Value} (h : Own w lo hi e A n c xs) : c ≤ 9223372036854775807 := by
  rcases h.1.2 with ⟨hv, h0⟩ | ⟨g, cap, cur, hv, hg, hh, hc, hm, r⟩
  · injection hv with _ _ h3; omega
  · injection hv with _ _ h3; unfold maxLen at hm; omega
theorem OwnM.len (h : OwnM eI eS w lo hi A n c rows) : rows.length = n := by
  obtain ⟨rs, h1, h2, _⟩ := h
  have := h1.len
  simp only [List.length_map] at this
  omega
theorem OwnM.rdm (h : OwnM eI eS w lo hi A n c rows) : RdM w hi A n rows := by
  obtain ⟨rs, h1, h2, h3, _⟩ := h
  refine ⟨rs.map slv, h1.rd, by simpa using h2, fun j v xs hv hx => ?_⟩
  rw [List.getElem?_map] at hv
  cases hr : rs[j]? with
  | none => rw [hr] at hv; cases hv
  | some r =>
    rw [hr] at hv
    simp only [Option.map_some, Option.some.injEq] at hv
    subst hv
    have ho := h3 j r xs hr hx
    exact ⟨_, _, _, rfl, ho.cap, ho.capm, ho.rd⟩
theorem OwnM.below {C : Nat} (h : OwnM eI eS w lo hi A n c rows) (hb : Below C w w') (hC : hi ≤ C) : OwnM eI eS w' lo hi A n c rows := by
  obtain ⟨rs, h1, h2, h3, h4⟩ := h
  exact ⟨rs, h1.below hb hC, h2, fun j r xs hr hx => (h3 j r xs hr hx).below hb hC, h4⟩
theorem OwnM.grown {row : Option Nat} (h : OwnM eI eS w lo hi A n c rows) (hg : w.grownBy w' row) (hr : ∀ g, row = some g → g < lo ∨ hi ≤ g) : OwnM eI eS w' lo hi A n c rows := by
  obtain ⟨rs, h1, h2, h3, h4⟩ := h
  exact ⟨rs, h1.grown hg hr, h2, fun j r xs hr' hx => (h3 j r xs hr' hx).grown hg hr, h4⟩
theorem OwnM.more (h : OwnM eI eS w lo hi A n c rows) {lo' hi' : Nat} (hl : lo' ≤ lo) (hh : hi ≤ hi') : OwnM eI eS w lo' hi' A n c rows := by
  obtain ⟨rs, h1, h2, h3, h4⟩ := h
  exact ⟨rs, h1.more hl hh, h2, fun j r xs hr hx => (h3 j r xs hr hx).more hl hh, h4⟩
/-- A write to a cell of a block of another element type leaves the slice as it was. -/
theorem Own.setOther {e e' : TypeId} {xs : List Value} {g j : Nat} {cur : Array Value} (h : Own w lo hi e A n c xs) (hg : w.heap[g]? = some (.cells cur e' (0, 0))) (hne : e ≠ e') (u : Value) :
    Own (w.setCell ⟨g, j, none⟩ u) lo hi e A n c xs := by
  refine ⟨⟨h.1.1, ?_⟩, h.2⟩
  rcases h.1.2 with hv | ⟨g', cap, cur', hv, hlo, hh, r⟩
  · exact .inl hv
  · refine .inr ⟨g', cap, cur', hv, hlo, ?_, r⟩
    have : g' ≠ g := by
      rintro rfl
      rw [hh] at hg
      injection hg with hg
      injection hg with _ he
      exact hne he
    rw [Below.heap_setCell _ _ _ _ this]
    exact hh
/-- The outer slice's cells. -/
theorem OwnM.outer {j : Nat} (h : OwnM eI eS w lo hi A n c rows) (hj : j < n) :
    ∃ g v, A = some ⟨g, 0, none⟩ ∧ lo ≤ g ∧ g < hi ∧ w.cell? ⟨g, j, none⟩ = some v ∧ w.frozen? ⟨g, j, none⟩ = false := by
  obtain ⟨rs, h1, h2, _⟩ := h
  obtain ⟨g, rfl, hlo, hhi⟩ := h1.addr (by omega)
  have hl := h1.len
  refine ⟨g, (rs.map slv)[j]'(by omega), rfl, hlo, hhi, ?_, h1.1.frozenAt j⟩
  rw [h1.1.cellAt j (by omega), List.getElem?_eq_getElem]
/-- A row is laid: it lies in a block that none of the other rows has. -/
theorem OwnM.setRow {g j : Nat} {r : Option Addr × Nat × Nat} {xs : List Int} {lo2 hi2 : Nat} (h : OwnM eI eS w lo hi (some ⟨g, 0, none⟩) n c rows) (hne : eI ≠ eS)
    (ho : Own w lo2 hi2 eI r.1 r.2.1 r.2.2 (xs.map (.int .i64))) (hl : lo ≤ lo2) (h2 : hi ≤ lo2) (hh : hi ≤ hi2) :
    OwnM eI eS (w.setCell ⟨g, j, none⟩ (slv r)) lo hi2 (some ⟨g, 0, none⟩) n c (rows.set j xs) := by
  obtain ⟨rs, h1, hlen, h3, h4⟩ := h
  have hblk : ∃ cur, w.heap[g]? = some (.cells cur eS (0, 0)) := by
    rcases h1.1.2 with ⟨hv, _⟩ | ⟨g', cap, cur, hv, _, hg, _⟩
    · cases hv
    · injection hv with e1
      injection e1 with e1
      injection e1 with e1
      subst e1
      exact ⟨cur, hg⟩
  obtain ⟨cur, hcur⟩ := hblk
  refine ⟨rs.set j r, ?_, by simpa using hlen, fun i s ys hs hy => ?_, fun i k s t hik hs ht a b ha hb => ?_⟩
  · rw [List.map_set]
    have := (h1.1.stored j (slv r)).1
    exact ⟨this, fun a ha => by have := h1.2 a ha; omega⟩
  · rw [List.getElem?_set] at hs hy
    by_cases hij : j = i
    · subst hij
      rw [if_pos rfl] at hs hy
      split at hs
      · rw [if_pos (by omega)] at hy
        simp only [Option.some.injEq] at hs hy
        subst hs hy
        exact (ho.more hl (Nat.le_refl _)).setOther hcur hne _
      · cases hs
    · rw [if_neg hij] at hs hy
      exact ((h3 i s ys hs hy).more (Nat.le_refl _) hh).setOther hcur hne _
  · have key : ∀ q : Nat, ∀ u : Option Addr × Nat × Nat, rs[q]? = some u → ∀ d : Addr, u.1 = some d → d.block < hi := by
      intro q u hu d hd
      have hq : q < rs.length := (List.getElem?_eq_some_iff.1 hu).1
      exact (h3 q u rows[q] hu (List.getElem?_eq_getElem (by omega))).2 d hd
    have hr : ∀ d : Addr, r.1 = some d → lo2 ≤ d.block := by
      intro d hd
      have := ho.1.lt d.block (by rw [hd]; rfl)
      exact this.1
    rw [List.getElem?_set] at hs ht
    by_cases hij : j = i
    · rw [if_pos hij] at hs
      split at hs
      · simp only [Option.some.injEq] at hs
        subst hs
        rw [if_neg (by omega)] at ht
        have := key k t ht b hb
        have := hr a ha
        omega
      · cases hs
    · rw [if_neg hij] at hs
      by_cases hkj : j = k
      · rw [if_pos hkj] at ht
        split at ht
        · simp only [Option.some.injEq] at ht
          subst ht
          have := key i s hs a ha
          have := hr b hb
          omega
        · cases ht
      · rw [if_neg hkj] at ht
        exact h4 i k s t hik hs ht a b ha hb
/-- 'make([][]T, n)': n nil rows. -/
theorem OwnM.made {g : Nat} (h : w.ownsRow lo eS 1 (.slice (some ⟨g, 0, none⟩) n n) n (List.replicate n (.slice none 0 0))) (hh : w.heap.size ≤ hi) :
    OwnM eI eS w lo hi (some ⟨g, 0, none⟩) n n (List.replicate n []) := by
  refine ⟨List.replicate n (none, 0, 0), ?_, by simp, fun j r xs hr hx => ?_, fun i j r s _ hr hs a b ha => ?_⟩
  · have : (List.replicate n ((none, 0, 0) : Option Addr × Nat × Nat)).map slv = List.replicate n (.slice none 0 0) := by simp [slv]
    rw [this]
    exact Own.of h hh
  · rw [List.getElem?_replicate] at hr hx
    split at hr
    · rename_i hj
      rw [if_pos hj] at hx
      simp only [Option.some.injEq] at hr hx
      subst hr hx
      exact Own.of (World.ownsRow_nil _ _ _ _) hh
    · cases hr
  · rw [List.getElem?_replicate] at hr
    split at hr
    · simp only [Option.some.injEq] at hr
      subst hr
      cases ha
    · cases hr
end

/-- k rows laid, the rest still nil. -/
def halfR (rows : List (List Int)) (n k : Nat) : List (List Int) := rows.take k ++ List.replicate (n - k) []
theorem halfR_zero (rows : List (List Int)) (n : Nat) : halfR rows n 0 = List.replicate n [] := by simp [halfR]
theorem halfR_full (rows : List (List Int)) (n : Nat) (h : rows.length = n) : halfR rows n n = rows := by simp [halfR, ← h]
theorem halfR_next {rows : List (List Int)} {n k : Nat} {xs : List Int} (h : rows.length = n) (hx : rows[k]? = some xs) : (halfR rows n k).set k xs = halfR rows n (k + 1) := by
  have hk : k < n := by rw [← h]; exact (List.getElem?_eq_some_iff.1 hx).1
  have hl : (rows.take k).length = k := by simp; omega
  unfold halfR
  rw [take_next hx, List.set_append, if_neg (by rw [hl]; omega), hl, Nat.sub_self]
  rw [show n - k = (n - (k + 1)) + 1 by omega, List.replicate_succ, List.set_cons_zero]
  simp

section
variable {P : Program} {ops : Array Oper} {rest : List Oper} {o : Oper} {a : Act} {Q : Exit → Act → World → Prop}
/-- 'make([][]T, n)': n nil slices are owned. -/
theorem wpList_mkS (w : World) (hg : o.guard = none) (l c : Operand) (t : TypeId) (hop : o.op = Op.makeSlice t l c)
    (base : Nat) (e : TypeId) (i : TypeInfo) (h1 : P.underlying t = some (.slice e)) (h2 : P.info? e = some i) (h3 : i.zero = some (.slice none 0 0)) (h4 : i.size = 1)
    (kl kc : IntKind) (L C : Int) (n : Nat) (hl : a.eval l = .int kl L) (hc : a.eval c = .int kc C) (hL : L = (n : Int)) (hC : C = (n : Int)) (b2 : i.bytes * n ≤ 281474976710656) (b3 : n ≤ maxLen) (b4 : base ≤ w.heap.size)
    (hK : ∀ w', w'.ownsRow base e 1 (.slice (some ⟨w.heap.size, 0, none⟩) n n) n (List.replicate n (.slice none 0 0)) → Below base w w' → wpList P ops Q rest (a.put o.dst (.slice (some ⟨w.heap.size, 0, none⟩) n n)) w') :
    wpList P ops Q (o :: rest) a w := by
  refine wpList_make_full w hg l c t hop base e i (.slice none 0 0) 1 h1 h2 h3 h4 kl kc L C n hl hc hL hC b2 b3 b4 ?_
  intro w' hown hgr
  refine hK w' ?_ ((Below.refl base w).grown hgr b4 (fun k hk => by cases hk))
  have e1 : (madeCells (Value.slice none 0 0).cells (n * 1)).toList = List.replicate n (.slice none 0 0) := by
    rw [Nat.mul_one]; exact toList_madeCells_one _ _
  rw [e1] at hown
  exact hown
end

/-- Only blocks from lo on and below hi, and new ones, have been written. -/
def WroteIn (lo hi : Nat) (w w' : World) : Prop :=
  w'.os = w.os ∧ w'.tape = w.tape ∧ w'.output = w.output ∧ w.heap.size ≤ w'.heap.size ∧ ∀ k, k < w.heap.size → (k < lo ∨ hi ≤ k) → w'.heap[k]? = w.heap[k]?
section
variable {w w' w'' : World} {lo hi lo2 hi2 n c B : Nat} {A : Option Addr} {e eI eS : TypeId} {xs : List Value} {rows : List (List Int)}
theorem WroteIn.refl (lo hi : Nat) (w : World) : WroteIn lo hi w w := ⟨rfl, rfl, rfl, Nat.le_refl _, fun _ _ _ => rfl⟩
theorem WroteIn.trans (h : WroteIn lo hi w w') (k : WroteIn lo hi w' w'') : WroteIn lo hi w w'' :=
  ⟨k.1.trans h.1, k.2.1.trans h.2.1, k.2.2.1.trans h.2.2.1, Nat.le_trans h.2.2.2.1 k.2.2.2.1, fun i hi' ho => (k.2.2.2.2 i (Nat.lt_of_lt_of_le hi' h.2.2.2.1) ho).trans (h.2.2.2.2 i hi' ho)⟩
theorem WroteIn.of_grown {row : Option Nat} (h : w.grownBy w' row) (hr : ∀ g, row = some g → lo ≤ g ∧ g < hi) : WroteIn lo hi w w' :=
  ⟨h.os, h.tape, h.output, h.size, fun k hk ho => h.block k hk (fun e => by have := hr k e.symm; omega)⟩
theorem WroteIn.size (h : WroteIn lo hi w w') : w.heap.size ≤ w'.heap.size := h.2.2.2.1
theorem WroteIn.below (h : WroteIn lo hi w w') (hB : B ≤ lo) (hs : B ≤ w.heap.size) : Below B w w' :=
  ⟨h.1, h.2.1, h.2.2.1, h.2.2.2.1, fun k hk => h.2.2.2.2 k (by omega) (.inl (by omega))⟩
theorem Rd.wrote (h : Rd w B A n xs) (hw : WroteIn lo hi w w') (hB : B ≤ lo) (hs : B ≤ w.heap.size) : Rd w' B A n xs := h.below (hw.below hB hs) (Nat.le_refl _)
theorem RdM.wrote (h : RdM w B A n rows) (hw : WroteIn lo hi w w') (hB : B ≤ lo) (hs : B ≤ w.heap.size) : RdM w' B A n rows := h.below (hw.below hB hs) (Nat.le_refl _)
theorem Own.wrote (h : Own w lo2 hi2 e A n c xs) (hw : WroteIn lo hi w w') (hd : hi2 ≤ lo ∨ hi ≤ lo2) : Own w' lo2 hi2 e A n c xs := by
  refine ⟨⟨h.1.1, ?_⟩, h.2⟩
  rcases h.1.2 with hv | ⟨g, cap, cur, hv, hlo, hh, r⟩
  · exact .inl hv
  · refine .inr ⟨g, cap, cur, hv, hlo, ?_, r⟩
    injection hv with h1
    have h2 := h.2 _ h1
    have hlt := (Array.getElem?_eq_some_iff.1 hh).1
    simp only at h2
    rw [hw.2.2.2.2 g hlt (by omega)]
    exact hh
theorem OwnM.wrote (h : OwnM eI eS w lo2 hi2 A n c rows) (hw : WroteIn lo hi w w') (hd : hi2 ≤ lo ∨ hi ≤ lo2) : OwnM eI eS w' lo2 hi2 A n c rows := by
  obtain ⟨rs, h1, h2, h3, h4⟩ := h
  exact ⟨rs, h1.wrote hw hd, h2, fun j r xs hr hx => (h3 j r xs hr hx).wrote hw hd, h4⟩
/-- A row of a matrix that the program made: where it lies, and what becomes of the matrix when that row alone is written. -/
theorem OwnM.rowAt {j : Nat} (h : OwnM eI eS w lo hi A n c rows) (hne : eI ≠ eS) (hj : j < n) :
    ∃ g Aj nj cj ys, A = some ⟨g, 0, none⟩ ∧ rows[j]? = some ys ∧ w.cell? ⟨g, j, none⟩ = some (.slice Aj nj cj) ∧ Own w lo hi eI Aj nj cj (ys.map (.int .i64)) ∧
      ∀ (w' : World) (zs : List Int), Own w' lo hi eI Aj nj cj (zs.map (.int .i64)) → w.grownBy w' (Aj.map (·.block)) → OwnM eI eS w' lo hi A n c (rows.set j zs) := by
  have hlen := h.len
  obtain ⟨rs, h1, h2, h3, h4⟩ := h
  obtain ⟨g, rfl, hlo, hhi⟩ := h1.addr (by omega)
  have hrl : j < rs.length := by omega
  have hr : rs[j]? = some rs[j] := List.getElem?_eq_getElem hrl
  have hy : rows[j]? = some rows[j] := List.getElem?_eq_getElem (by omega)
  have hcell : w.cell? ⟨g, j, none⟩ = some (slv rs[j]) := by
    rw [h1.1.cellAt j (by omega), List.getElem?_map, hr]; rfl
  refine ⟨g, rs[j].1, rs[j].2.1, rs[j].2.2, rows[j], rfl, hy, hcell, h3 j _ _ hr hy, fun w' zs ho hg => ?_⟩
  have hob : ∀ a : Addr, rs[j].1 = some a → ∃ cur, w.heap[a.block]? = some (.cells cur eI (0, 0)) := by
    intro a ha
    rcases (h3 j _ _ hr hy).1.2 with ⟨hv, _⟩ | ⟨g', cap, cur, hv, _, hgg, _⟩
    · injection hv with e1; rw [ha] at e1; cases e1
    · injection hv with e1
      rw [ha] at e1
      injection e1 with e1
      subst e1
      exact ⟨cur, hgg⟩
  have hkeep : ∀ (g' : Nat), g' < w.heap.size → (∀ a : Addr, rs[j].1 = some a → a.block ≠ g') → w'.heap[g']? = w.heap[g']? := by
    intro g' hlt hn'
    refine hg.block g' hlt (fun e => ?_)
    cases hA : rs[j].1 with
    | none => rw [hA] at e; cases e
    | some a =>
      rw [hA] at e
      simp only [Option.map_some, Option.some.injEq] at e
      exact hn' a hA e.symm
  have own_keep : ∀ {e' : TypeId} {A' : Option Addr} {n' c' : Nat} {xs' : List Value}, Own w lo hi e' A' n' c' xs' → (∀ a b : Addr, rs[j].1 = some a → A' = some b → a.block ≠ b.block) → Own w' lo hi e' A' n' c' xs' := by
    intro e' A' n' c' xs' ho' hd
    refine ⟨⟨ho'.1.1, ?_⟩, ho'.2⟩
    rcases ho'.1.2 with hv | ⟨g', cap, cur, hv, hlo', hh, r⟩
    · exact .inl hv
    · refine .inr ⟨g', cap, cur, hv, hlo', ?_, r⟩
      injection hv with e1
      rw [hkeep g' (Array.getElem?_eq_some_iff.1 hh).1 (fun a ha => hd a _ ha e1)]
      exact hh
  refine ⟨rs, own_keep h1 (fun a b ha hb => ?_), by simpa using h2, fun i r ys hi' hyi => ?_, h4⟩
  · injection hb with hb
    subst hb
    obtain ⟨cur, hcur⟩ := hob a ha
    intro e
    simp only at e
    rcases h1.1.2 with ⟨hv, _⟩ | ⟨g', cap, cur', hv, _, hgg, _⟩
    · cases hv
    · injection hv with e1
      injection e1 with e1
      injection e1 with e1
      subst e1
      rw [e, hgg] at hcur
      injection hcur with hcur
      injection hcur with _ ht
      exact hne ht.symm
  · rw [List.getElem?_set] at hyi
    by_cases hij : j = i
    · subst hij
      rw [if_pos rfl, if_pos (by omega)] at hyi
      rw [hr] at hi'
      simp only [Option.some.injEq] at hi' hyi
      subst hi' hyi
      exact ho
    · rw [if_neg hij] at hyi
      refine own_keep (h3 i r ys hi' hyi) (fun a b ha hb => ?_)
      rcases Nat.lt_or_gt_of_ne hij with hlt | hgt
      · exact h4 j i _ _ hlt hr hi' a b ha hb
      · exact fun e => h4 i j _ _ hgt hi' hr b a hb ha e.symm
end

end Go.Proofs.Ytnobbojjhehdfaa
