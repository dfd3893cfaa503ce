/- Laws for matrices that are built row by row. No function of the program in sight. Conditions: stated with each theorem. -/
import Derived.Test.YtnobbojjhehdfaaMatMem
import Derived.RegionTactic
namespace Go.Proofs.Ytnobbojjhehdfaa
open Go.RowKit
set_option maxRecDepth 100000

/-- A write to a row of another element type leaves the slice as it was. -/
theorem Own.keptOther {w w' : World} {lo hi n c : Nat} {A : Option Addr} {e e' : TypeId} {xs : List Value} {row : Option Nat} (h : Own w lo hi e A n c xs) (hg : w.grownBy w' row)
    (hrow : ∀ g, row = some g → ∃ cur, w.heap[g]? = some (.cells cur e' (0, 0))) (hne : e ≠ e') : Own w' lo hi e A n c xs := by
  refine ⟨⟨h.1.1, ?_⟩, h.2⟩
  rcases h.1.2 with hv | ⟨g', cap, cur', hv, hlo, hh, r⟩
  · exact .inl hv
  · refine .inr ⟨g', cap, cur', hv, hlo, ?_, r⟩
    rw [hg.block g' (Array.getElem?_eq_some_iff.1 hh).1 (fun e => by
      obtain ⟨cur, hcur⟩ := hrow g' e.symm
      rw [hh] at hcur
      injection hcur with hcur
      injection hcur with _ ht
      exact hne ht)]
    exact hh

/-- The block of an owned slice. -/
theorem ownBlock_cells {w : World} {base : Nat} {e : TypeId} {v : Value} {n : Nat} {xs : List Value} (h : w.ownsRow base e 1 v n xs) : ∀ g, v.ownBlock = some g → ∃ cur, w.heap[g]? = some (.cells cur e (0, 0)) := by
  intro g hg
  rcases h.2 with ⟨rfl, _⟩ | ⟨g', cap, cur, rfl, _, hh, _⟩
  · simp [Value.ownBlock] at hg
  · simp [Value.ownBlock] at hg
    subst hg
    exact ⟨cur, hh⟩

/-- A matrix takes one row more. -/
theorem OwnM.push {eI eS : TypeId} {w w' : World} {lo hi lo2 hi2 n c : Nat} {A A' : Option Addr} {c' : Nat} {rows : List (List Int)} {r : Option Addr × Nat × Nat} {xs : List Int} {row : Option Nat}
    (h : OwnM eI eS w lo hi A n c rows) (hne : eI ≠ eS) (ho : Own w lo2 hi2 eI r.1 r.2.1 r.2.2 (xs.map (.int .i64))) (hl : lo ≤ lo2) (h2 : hi ≤ lo2) (hh2 : hi2 ≤ w.heap.size) (hhi : hi ≤ w.heap.size)
    (hg : w.grownBy w' row) (hrow : ∀ g, row = some g → ∃ cur, w.heap[g]? = some (.cells cur eS (0, 0)))
    (hout : ∀ ys, w.ownsRow lo eS 1 (.slice A n c) n ys → w'.ownsRow lo eS 1 (.slice A' (n + 1) c') (n + 1) (ys ++ [slv r])) :
    OwnM eI eS w' lo w'.heap.size A' (n + 1) c' (rows ++ [xs]) := by
  obtain ⟨rs, h1, hlen, h3, h4⟩ := h
  have hs := hg.size
  refine ⟨rs ++ [r], ?_, by simp [hlen], fun j s ys hs' hy => ?_, fun i j s t hij hs' ht a b ha hb => ?_⟩
  · rw [List.map_append]
    exact Own.of (hout _ h1.1) (Nat.le_refl _)
  · rw [List.getElem?_append] at hs' hy
    by_cases hj : j < rs.length
    · rw [if_pos hj] at hs'
      rw [if_pos (by omega)] at hy
      exact ((h3 j s ys hs' hy).keptOther hg hrow hne).more (Nat.le_refl _) (by omega)
    · rw [if_neg hj] at hs'
      rw [if_neg (by omega)] at hy
      have hj0 : j - rs.length = 0 := by
        have := (List.getElem?_eq_some_iff.1 hs').1
        simp at this; omega
      rw [hj0] at hs'
      rw [show j - rows.length = 0 by omega] at hy
      simp at hs' hy
      subst hs' hy
      exact (ho.keptOther hg hrow hne).more hl (by omega)
  · have key : ∀ q : Nat, ∀ u : Option Addr × Nat × Nat, rs[q]? = some u → ∀ d : Addr, u.1 = some d → d.block < hi := by
      intro q u hu d hd
      have hq : q < rs.length := (List.getElem?_eq_some_iff.1 hu).1
      exact (h3 q u rows[q] hu (List.getElem?_eq_getElem (by omega))).2 d hd
    rw [List.getElem?_append] at hs' ht
    by_cases hj : j < rs.length
    · rw [if_pos (by omega)] at hs'
      rw [if_pos hj] at ht
      exact h4 i j s t hij hs' ht a b ha hb
    · rw [if_neg hj] at ht
      have hj0 : j - rs.length = 0 := by
        have := (List.getElem?_eq_some_iff.1 ht).1
        simp at this; omega
      rw [hj0] at ht
      simp at ht
      subst ht
      rw [if_pos (by omega)] at hs'
      have h5 := key i s hs' a ha
      have h6 := (ho.1.lt b.block (by rw [hb]; rfl)).1
      omega

section
variable {P : Program} {ops : Array Oper} {rest : List Oper} {o : Oper} {a : Act} {Q : Exit → Act → World → Prop}
/-- 'append(out, row)': one row more behind an owned matrix. -/
theorem wpList_appRow (w : World) (hgd : o.guard = none) (s x : Operand) (t : TypeId)
    (ho : o.op = .call { callee := .builtin .append, args := #[s, x], argTypes := #[t, t] })
    (eI eS : TypeId) (hne : eI ≠ eS) (i : TypeInfo) (z : Value) (bytes : Nat) (ht : P.underlying t = some (.slice eS)) (hi : P.info? eS = some i) (hz : i.zero = some z)
    (hsize : i.size = 1) (hby : i.bytes = bytes) (hzs : z.cells.size = 1)
    (lo hi' lo2 hi2 : Nat) (A : Option Addr) (n c : Nat) (rows : List (List Int)) (hs : a.eval s = .slice A n c) (hown : OwnM eI eS w lo hi' A n c rows)
    (Ar : Option Addr) (nr cr : Nat) (xs : List Int) (hrow : Own w lo2 hi2 eI Ar nr cr (xs.map (.int .i64))) (hl : lo ≤ lo2) (h2 : hi' ≤ lo2) (hh2 : hi2 ≤ w.heap.size)
    (et : TypeId) (hx : a.eval x = .slice (some ⟨w.heap.size, 0, none⟩) 1 1)
    (h63 : n + 1 ≤ maxLen) (hbytes : (n + 1) * bytes ≤ 140737488355328) (hbase : lo ≤ w.heap.size) (hhi : hi' ≤ w.heap.size)
    (h : ∀ A' c' w', OwnM eI eS w' lo w'.heap.size A' (n + 1) c' (rows ++ [xs]) → Below lo w w' → wpList P ops Q rest (a.put o.dst (.slice A' (n + 1) c')) w') :
    wpList P ops Q (o :: rest) a (w.alloc (.cells #[.slice Ar nr cr] et)) := by
  obtain ⟨ys, hys⟩ : ∃ ys, w.ownsRow lo eS 1 (.slice A n c) n ys := by obtain ⟨rs, h1, _⟩ := hown; exact ⟨_, h1.1⟩
  have hysM : ∀ zs, w.ownsRow lo eS 1 (.slice A n c) n zs → zs = ys := by
    intro zs hzs'
    rcases hys.2 with ⟨hv, h0⟩ | ⟨g, cap, cur, hv, _, hh, _, _, _, htk⟩
    · have e1 : ys = [] := List.eq_nil_of_length_eq_zero (by have := hys.1; omega)
      have e2 : zs = [] := List.eq_nil_of_length_eq_zero (by have := hzs'.1; omega)
      rw [e1, e2]
    · rcases hzs'.2 with ⟨hv', h0⟩ | ⟨g', cap', cur', hv', _, hh', _, _, _, htk'⟩
      · rw [hv] at hv'; cases hv'
      · rw [hv] at hv'
        injection hv' with e1
        injection e1 with e1
        injection e1 with e1
        subst e1
        rw [hh] at hh'
        injection hh' with hh'
        injection hh' with hh'
        subst hh'
        rw [← htk, ← htk']
  refine wpList_append_own_at (w.alloc (.cells #[.slice Ar nr cr] et)) hgd s x t ho lo eS i z 1 bytes ht hi hz hsize hby hzs (by decide) (.slice A n c) n ys hs (hys.alloc _)
    ⟨w.heap.size, 0, none⟩ 1 1 [.slice Ar nr cr] hx rfl ?_ ?_ h63 hbytes (by simp; omega) ?_
  · intro j v hv
    match j, hv with
    | 0, hv => simp at hv; subst hv; simp [Addr.add]
  · intro v hv; simp at hv; subst hv; rfl
  · intro v' w' hown' hg _ _
    obtain ⟨A', c', rfl⟩ := owns_form hown'
    have hg0 : w.grownBy w' (Value.slice A n c).ownBlock :=
      ⟨hg.os, hg.tape, hg.output, Nat.le_trans (by simp) hg.size, fun k hk hne' => (hg.block k (by simp; omega) hne').trans (Below.heap_alloc w _ k hk)⟩
    refine h A' c' w' ?_ ((Below.refl lo w).grown hg0 hbase fun k hk => (hys.lt k hk).1)
    exact hown.push hne (r := (Ar, nr, cr)) hrow hl h2 hh2 hhi hg0 (ownBlock_cells hys) (fun zs hzs' => by rw [hysM zs hzs']; exact hown')
end

/-- What an append of one element leaves: the row, what else has turned, where the row lies. -/
def Apped (e : TypeId) (w w' : World) (base : Nat) (A : Option Addr) (n c : Nat) (A' : Option Addr) (c' : Nat) (xs : List Value) : Prop :=
  w'.ownsRow base e 1 (.slice A' (n + 1) c') (n + 1) xs ∧ w.grownBy w' (Value.slice A n c).ownBlock ∧ ∀ a : Addr, A' = some a → (A.map (·.block) = some a.block ∨ w.heap.size ≤ a.block)

theorem run_app1 {P : Program} (w : World) (t ty : TypeId) (base : Nat) (e : TypeId) (i : TypeInfo) (z : Value) (bytes : Nat) (ht : P.underlying t = some (.slice e)) (hi : P.info? e = some i) (hz : i.zero = some z)
    (hsize : i.size = 1) (hby : i.bytes = bytes) (hzs : z.cells.size = 1)
    (A : Option Addr) (n c : Nat) (xs : List Value) (hown : w.ownsRow base e 1 (.slice A n c) n xs) (u : Value) (hu : u.oneCell' = true) (et : TypeId)
    (h63 : n + 1 ≤ maxLen) (hbytes : (n + 1) * bytes ≤ 140737488355328) (hbase : base ≤ w.heap.size) :
    ∃ A' c' w', (Builtin.append_ #[t, t] ty #[.slice A n c, .slice (some ⟨w.heap.size, 0, none⟩) 1 1]).run P (w.alloc (.cells #[u] et)) = .ok (.slice A' (n + 1) c') w' ∧ Apped e w w' base A n c A' c' (xs ++ [u]) := by
  obtain ⟨v', w', hr, h2, h3, _, h5⟩ := run_append_own_at (P := P) (w.alloc (.cells #[u] et)) base t ty e i z 1 bytes ht hi hz hsize hby hzs (by decide) (.slice A n c) n xs (hown.alloc _)
    ⟨w.heap.size, 0, none⟩ 1 1 [u] rfl (fun j v hv => by
      match j, hv with
      | 0, hv => simp at hv; subst hv; simp [Addr.add]) (fun v hv => by simp at hv; subst hv; exact hu) h63 hbytes (by simp; omega)
  obtain ⟨A', c', rfl⟩ := owns_form h2
  refine ⟨A', c', w', hr, h2, ⟨h3.os, h3.tape, h3.output, Nat.le_trans (by simp) h3.size, fun k hk hne' => (h3.block k (by simp; omega) hne').trans (Below.heap_alloc w _ k hk)⟩, fun a ha => ?_⟩
  subst ha
  rcases h5 with h5 | h5
  · left
    cases A with
    | none => simp [Value.ownBlock] at h5
    | some b => simpa [Value.ownBlock] using h5.symm
  · right
    simp [Value.ownBlock] at h5
    omega

section
variable {P : Program} {ops : Array Oper} {rest : List Oper} {o : Oper} {a : Act} {Q : Exit → Act → World → Prop}
/-- 'append(row, x)', said in full. -/
theorem wpList_app1K (w : World) (hgd : o.guard = none) (s x : Operand) (t : TypeId)
    (ho : o.op = .call { callee := .builtin .append, args := #[s, x], argTypes := #[t, t] })
    (base : Nat) (e : TypeId) (i : TypeInfo) (z : Value) (bytes : Nat) (ht : P.underlying t = some (.slice e)) (hi : P.info? e = some i) (hz : i.zero = some z)
    (hsize : i.size = 1) (hby : i.bytes = bytes) (hzs : z.cells.size = 1)
    (A : Option Addr) (n c : Nat) (xs : List Value) (hs : a.eval s = .slice A n c) (hown : w.ownsRow base e 1 (.slice A n c) n xs)
    (u : Value) (hu : u.oneCell' = true) (et : TypeId) (hx : a.eval x = .slice (some ⟨w.heap.size, 0, none⟩) 1 1)
    (h63 : n + 1 ≤ maxLen) (hbytes : (n + 1) * bytes ≤ 140737488355328) (hbase : base ≤ w.heap.size)
    (h : ∀ A' c' w', Apped e w w' base A n c A' c' (xs ++ [u]) → wpList P ops Q rest (a.put o.dst (.slice A' (n + 1) c')) w') :
    wpList P ops Q (o :: rest) a (w.alloc (.cells #[u] et)) := by
  obtain ⟨A', c', w', hr, h2⟩ := run_app1 (P := P) w t o.type base e i z bytes ht hi hz hsize hby hzs A n c xs hown u hu et h63 hbytes hbase
  refine wpList_plain hgd fun K hK => ?_
  unfold Oper.wp execOp
  simp only [ho, resolve, invoke, builtin, Sem.run_bind, Sem.run_pure, Result.andThen_ok, List.map_toArray, List.map_cons, List.map_nil, hs, hx, hr]
  exact hK _ _ (h A' c' w' h2)
/-- The same at a step of a region that draws its order. -/
theorem step_app1K {K : Act → World → Prop} {E : Prop} (w : World) (hgd : o.guard = none) (s x : Operand) (t : TypeId)
    (ho : o.op = .call { callee := .builtin .append, args := #[s, x], argTypes := #[t, t] })
    (base : Nat) (e : TypeId) (i : TypeInfo) (z : Value) (bytes : Nat) (ht : P.underlying t = some (.slice e)) (hi : P.info? e = some i) (hz : i.zero = some z)
    (hsize : i.size = 1) (hby : i.bytes = bytes) (hzs : z.cells.size = 1)
    (A : Option Addr) (n c : Nat) (xs : List Value) (hs : a.eval s = .slice A n c) (hown : w.ownsRow base e 1 (.slice A n c) n xs)
    (u : Value) (hu : u.oneCell' = true) (et : TypeId) (hx : a.eval x = .slice (some ⟨w.heap.size, 0, none⟩) 1 1)
    (h63 : n + 1 ≤ maxLen) (hbytes : (n + 1) * bytes ≤ 140737488355328) (hbase : base ≤ w.heap.size)
    (h : ∀ A' c' w', Apped e w w' base A n c A' c' (xs ++ [u]) → K (a.put o.dst (.slice A' (n + 1) c')) w') :
    if Region.wanted o (yielded ops a.tmps) = true then Oper.wp P o a (w.alloc (.cells #[u] et)).drew K Q else E := by
  obtain ⟨A', c', w', hr, h2⟩ := run_app1 (P := P) w.drew t o.type base e i z bytes ht hi hz hsize hby hzs A n c xs hown u hu et h63 hbytes hbase
  have hw : Region.wanted o (yielded ops a.tmps) = true := by simp [Region.wanted, hgd]
  rw [if_pos hw]
  have hr' : (Builtin.append_ #[t, t] o.type #[.slice A n c, .slice (some ⟨w.heap.size, 0, none⟩) 1 1]).run P (w.alloc (.cells #[u] et)).drew = .ok (.slice A' (n + 1) c') w' := hr
  unfold Oper.wp execOp
  simp only [ho, resolve, invoke, builtin, Sem.run_bind, Sem.run_pure, Result.andThen_ok, List.map_toArray, List.map_cons, List.map_nil, hs, hx, hr']
  exact h A' c' w' ⟨h2.1, ⟨h2.2.1.os, h2.2.1.tape, h2.2.1.output, h2.2.1.size, h2.2.1.block⟩, h2.2.2⟩
end

/-- A row of a matrix that the program made, and what becomes of the matrix when that row takes one element more and is laid back. -/
theorem OwnM.rowApp {eI eS : TypeId} {w : World} {lo hi n c j : Nat} {A : Option Addr} {rows : List (List Int)} (h : OwnM eI eS w lo hi A n c rows) (hne : eI ≠ eS) (hj : j < n) (hhi : hi ≤ w.heap.size) (hlo : lo ≤ w.heap.size) :
    ∃ g Aj nj cj ys, A = some ⟨g, 0, none⟩ ∧ lo ≤ g ∧ g < hi ∧ rows[j]? = some ys ∧ ys.length = nj ∧ w.cell? ⟨g, j, none⟩ = some (.slice Aj nj cj) ∧ w.ownsRow lo eI 1 (.slice Aj nj cj) nj (ys.map (.int .i64)) ∧
      ∀ (w' : World) (A' : Option Addr) (c' : Nat) (zs : List Int), Apped eI w w' lo Aj nj cj A' c' (zs.map (.int .i64)) →
        w'.cell? ⟨g, j, none⟩ = some (.slice Aj nj cj) ∧ w'.frozen? ⟨g, j, none⟩ = false ∧ Below lo w w' ∧
        OwnM eI eS (w'.setCell ⟨g, j, none⟩ (.slice A' (nj + 1) c')) lo w'.heap.size A n c (rows.set j zs) := by
  have hlen := h.len
  obtain ⟨rs, h1, h2, h3, h4⟩ := h
  obtain ⟨g, rfl, hglo, hghi⟩ := h1.addr (by omega)
  have hrl : j < rs.length := by omega
  have hr : rs[j]? = some rs[j] := List.getElem?_eq_getElem hrl
  have hy : rows[j]? = some rows[j] := List.getElem?_eq_getElem (by omega)
  have hcell : w.cell? ⟨g, j, none⟩ = some (slv rs[j]) := by
    rw [h1.1.cellAt j (by omega), List.getElem?_map, hr]; rfl
  have hrow := h3 j _ _ hr hy
  have hgc : ∃ cur, w.heap[g]? = some (.cells cur eS (0, 0)) := ownBlock_cells h1.1 g rfl
  refine ⟨g, rs[j].1, rs[j].2.1, rs[j].2.2, rows[j], rfl, hglo, hghi, hy, by have := hrow.len; simpa using this, hcell, hrow.1, fun w' A' c' zs hap => ?_⟩
  obtain ⟨hown', hg, hblk⟩ := hap
  have hs := hg.size
  have hob := ownBlock_cells hrow.1
  have hout : w'.heap[g]? = w.heap[g]? := hg.block g (by obtain ⟨cur, hc⟩ := hgc; exact (Array.getElem?_eq_some_iff.1 hc).1) (fun e => by
    obtain ⟨cur, hcur⟩ := hob g e.symm
    obtain ⟨cur2, hc2⟩ := hgc
    rw [hc2] at hcur
    injection hcur with hcur
    injection hcur with _ ht
    exact hne ht.symm)
  have h1' : Own w' lo hi eS (some ⟨g, 0, none⟩) n c (rs.map slv) := h1.keptOther hg hob (Ne.symm hne)
  have hoth : ∀ (i : Nat) (r : Option Addr × Nat × Nat) (ys : List Int), i ≠ j → rs[i]? = some r → rows[i]? = some ys → Own w' lo hi eI r.1 r.2.1 r.2.2 (ys.map (.int .i64)) := by
    intro i r ys hij hi' hyi
    have ho := h3 i r ys hi' hyi
    refine ⟨⟨ho.1.1, ?_⟩, ho.2⟩
    rcases ho.1.2 with hv | ⟨g', cap, cur, hv, hlo', hh, rr⟩
    · exact .inl hv
    · refine .inr ⟨g', cap, cur, hv, hlo', ?_, rr⟩
      injection hv with e1
      rw [hg.block g' (Array.getElem?_eq_some_iff.1 hh).1 (fun e => by
        cases hA : rs[j].1 with
        | none => rw [hA] at e; cases e
        | some a =>
          rw [hA] at e
          simp only [Value.ownBlock, Option.some.injEq] at e
          rcases Nat.lt_or_gt_of_ne hij with hlt | hgt
          · exact h4 i j _ _ hlt hi' hr _ a e1 hA e
          · exact h4 j i _ _ hgt hr hi' a _ hA e1 e.symm)]
      exact hh
  refine ⟨by rw [World.cell?_of_block (w := w) (a := ⟨g, j, none⟩) hout]; exact hcell, by rw [World.frozen?_of_block (w := w) (a := ⟨g, j, none⟩) hout]; exact h1.1.frozenAt j, (Below.refl lo w).grown hg hlo (fun k hk => (hrow.1.lt k hk).1), ?_⟩
  obtain ⟨cur, hcur⟩ := hgc
  have hcur' : w'.heap[g]? = some (.cells cur eS (0, 0)) := hout.trans hcur
  refine ⟨rs.set j (A', rs[j].2.1 + 1, c'), ?_, by simpa using h2, fun i r ys hi' hyi => ?_, fun i k r s hik hi' hk' a b ha hb => ?_⟩
  · rw [List.map_set]
    exact ⟨(h1'.1.stored j (.slice A' (rs[j].2.1 + 1) c')).1, fun a ha => by have := h1.2 a ha; omega⟩
  · rw [List.getElem?_set] at hi' hyi
    by_cases hij : j = i
    · subst hij
      rw [if_pos rfl, if_pos (by omega)] at hi' hyi
      simp only [Option.some.injEq] at hi' hyi
      subst hi' hyi
      exact (Own.of hown' (Nat.le_refl _)).setOther hcur' hne _
    · rw [if_neg hij] at hi' hyi
      exact ((hoth i r ys (Ne.symm hij) hi' hyi).more (Nat.le_refl _) (by omega)).setOther hcur' hne _
  · have key : ∀ q : Nat, ∀ u : Option Addr × Nat × Nat, rs[q]? = some u → ∀ d : Addr, u.1 = some d → d.block < hi := by
      intro q u hu d hd
      have hq : q < rs.length := (List.getElem?_eq_some_iff.1 hu).1
      exact (h3 q u rows[q] hu (List.getElem?_eq_getElem (by omega))).2 d hd
    have new : ∀ (q : Nat) (u : Option Addr × Nat × Nat), q ≠ j → rs[q]? = some u → ∀ d e : Addr, u.1 = some d → A' = some e → d.block ≠ e.block := by
      intro q u hq hu d e hd he heq
      rcases hblk e he with hb' | hb'
      · cases hA : rs[j].1 with
        | none => rw [hA] at hb'; cases hb'
        | some a' =>
          rw [hA] at hb'
          simp only [Option.map_some, Option.some.injEq] at hb'
          rcases Nat.lt_or_gt_of_ne hq with hlt | hgt
          · exact h4 q j _ _ hlt hu hr d a' hd hA (by omega)
          · exact h4 j q _ _ hgt hr hu a' d hA hd (by omega)
      · have := key q u hu d hd
        omega
    rw [List.getElem?_set] at hi' hk'
    by_cases hij : j = i
    · rw [if_pos hij, if_pos hrl] at hi'
      simp only [Option.some.injEq] at hi'
      subst hi'
      rw [if_neg (by omega)] at hk'
      exact fun e => new k s (by omega) hk' b a hb ha e.symm
    · rw [if_neg hij] at hi'
      by_cases hkj : j = k
      · rw [if_pos hkj, if_pos hrl] at hk'
        simp only [Option.some.injEq] at hk'
        subst hk'
        exact new i r (Ne.symm hij) hi' a b ha hb
      · rw [if_neg hkj] at hk'
        exact h4 i k r s hik hi' hk' a b ha hb

end Go.Proofs.Ytnobbojjhehdfaa
