/- Laws for matrices that are built row by row. No function of the program in sight. Conditions: stated with each theorem. -/
import Derived.Test.YtlcepceomlfnbaaMatMem
namespace Go.Proofs.Ytlcepceomlfnbaa
open Go.RowKit

/-- A write to a row of another element type leaves the slice as it was. -/
theorem Own.keptOther {w w' : World} {lo hi n c : Nat} {A : Option Addr} {e e' : TypeId} {xs : List Value} {row : Option Nat} (h : Own w lo hi e A n c xs) (hg : w.grownBy w' row)
    (hrow : ∀ g, row = some g → ∃ cur, w.heap[g]? = some (.cells cur e' (0, 0))) (hne : e ≠ e') : Own w' lo hi e A n c xs := by
  refine ⟨⟨h.1.1, ?_⟩, h.2⟩
  rcases h.1.2 with hv | ⟨g', cap, cur', hv, hlo, hh, r⟩
  · exact .inl hv
  · refine .inr ⟨g', cap, cur', hv, hlo, ?_, r⟩
    rw [hg.block g' (Array.getElem?_eq_some_iff.1 hh).1 (fun e => by
      obtain ⟨cur, hcur⟩ := hrow g' e.symm
      rw [hh] at hcur
      injection hcur with hcur
      injection hcur with _ ht
      exact hne ht)]
    exact hh

/-- The block of an owned slice. -/
theorem ownBlock_cells {w : World} {base : Nat} {e : TypeId} {v : Value} {n : Nat} {xs : List Value} (h : w.ownsRow base e 1 v n xs) : ∀ g, v.ownBlock = some g → ∃ cur, w.heap[g]? = some (.cells cur e (0, 0)) := by
  intro g hg
  rcases h.2 with ⟨rfl, _⟩ | ⟨g', cap, cur, rfl, _, hh, _⟩
  · simp [Value.ownBlock] at hg
  · simp [Value.ownBlock] at hg
    subst hg
    exact ⟨cur, hh⟩

/-- A matrix takes one row more. -/
theorem OwnM.push {eI eS : TypeId} {w w' : World} {lo hi lo2 hi2 n c : Nat} {A A' : Option Addr} {c' : Nat} {rows : List (List Int)} {r : Option Addr × Nat × Nat} {xs : List Int} {row : Option Nat}
    (h : OwnM eI eS w lo hi A n c rows) (hne : eI ≠ eS) (ho : Own w lo2 hi2 eI r.1 r.2.1 r.2.2 (xs.map (.int .i64))) (hl : lo ≤ lo2) (h2 : hi ≤ lo2) (hh2 : hi2 ≤ w.heap.size) (hhi : hi ≤ w.heap.size)
    (hg : w.grownBy w' row) (hrow : ∀ g, row = some g → ∃ cur, w.heap[g]? = some (.cells cur eS (0, 0)))
    (hout : ∀ ys, w.ownsRow lo eS 1 (.slice A n c) n ys → w'.ownsRow lo eS 1 (.slice A' (n + 1) c') (n + 1) (ys ++ [slv r])) :
    OwnM eI eS w' lo w'.heap.size A' (n + 1) c' (rows ++ [xs]) := by
  obtain ⟨rs, h1, hlen, h3, h4⟩ := h
  have hs := hg.size
  refine ⟨rs ++ [r], ?_, by simp [hlen], fun j s ys hs' hy => ?_, fun i j s t hij hs' ht a b ha hb => ?_⟩
  · rw [List.map_append]
    exact Own.of (hout _ h1.1) (Nat.le_refl _)
  · rw [List.getElem?_append] at hs' hy
    by_cases hj : j < rs.length
    · rw [if_pos hj] at hs'
      rw [if_pos (by omega)] at hy
      exact ((h3 j s ys hs' hy).keptOther hg hrow hne).more (Nat.le_refl _) (by omega)
    · rw [if_neg hj] at hs'
      rw [if_neg (by omega)] at hy
      have hj0 : j - rs.length = 0 := by
        have := (List.getElem?_eq_some_iff.1 hs').1
        simp at this; omega
      rw [hj0] at hs'
      rw [show j - rows.length = 0 by omega] at hy
      simp at hs' hy
      subst hs' hy
      exact (ho.keptOther hg hrow hne).more hl (by omega)
  · have key : ∀ q : Nat, ∀ u : Option Addr × Nat × Nat, rs[q]? = some u → ∀ d : Addr, u.1 = some d → d.block < hi := by
      intro q u hu d hd
      have hq : q < rs.length := (List.getElem?_eq_some_iff.1 hu).1
      exact (h3 q u rows[q] hu (List.getElem?_eq_getElem (by omega))).2 d hd
    rw [List.getElem?_append] at hs' ht
    by_cases hj : j < rs.length
    · rw [if_pos (by omega)] at hs'
      rw [if_pos hj] at ht
      exact h4 i j s t hij hs' ht a b ha hb
    · rw [if_neg hj] at ht
      have hj0 : j - rs.length = 0 := by
        have := (List.getElem?_eq_some_iff.1 ht).1
        simp at this; omega
      rw [hj0] at ht
      simp at ht
      subst ht
      rw [if_pos (by omega)] at hs'
      have h5 := key i s hs' a ha
      have h6 := (ho.1.lt b.block (by rw [hb]; rfl)).1
      omega

section
variable {P : Program} {ops : Array Oper} {rest : List Oper} {o : Oper} {a : Act} {Q : Exit → Act → World → Prop}
/-- 'append(out, row)': one row more behind an owned matrix. -/
theorem wpList_appRow (w : World) (hgd : o.guard = none) (s x : Operand) (t : TypeId)
    (ho : o.op = .call { callee := .builtin .append, args := #[s, x], argTypes := #[t, t] })
    (eI eS : TypeId) (hne : eI ≠ eS) (i : TypeInfo) (z : Value) (bytes : Nat) (ht : P.underlying t = some (.slice eS)) (hi : P.info? eS = some i) (hz : i.zero = some z)
    (hsize : i.size = 1) (hby : i.bytes = bytes) (hzs : z.cells.size = 1)
    (lo hi' lo2 hi2 : Nat) (A : Option Addr) (n c : Nat) (rows : List (List Int)) (hs : a.eval s = .slice A n c) (hown : OwnM eI eS w lo hi' A n c rows)
    (Ar : Option Addr) (nr cr : Nat) (xs : List Int) (hrow : Own w lo2 hi2 eI Ar nr cr (xs.map (.int .i64))) (hl : lo ≤ lo2) (h2 : hi' ≤ lo2) (hh2 : hi2 ≤ w.heap.size)
    (et : TypeId) (hx : a.eval x = .slice (some ⟨w.heap.size, 0, none⟩) 1 1)
    (h63 : n + 1 ≤ maxLen) (hbytes : (n + 1) * bytes ≤ 140737488355328) (hbase : lo ≤ w.heap.size) (hhi : hi' ≤ w.heap.size)
    (h : ∀ A' c' w', OwnM eI eS w' lo w'.heap.size A' (n + 1) c' (rows ++ [xs]) → Below lo w w' → wpList P ops Q rest (a.put o.dst (.slice A' (n + 1) c')) w') :
    wpList P ops Q (o :: rest) a (w.alloc (.cells #[.slice Ar nr cr] et)) := by
  obtain ⟨ys, hys⟩ : ∃ ys, w.ownsRow lo eS 1 (.slice A n c) n ys := by obtain ⟨rs, h1, _⟩ := hown; exact ⟨_, h1.1⟩
  have hysM : ∀ zs, w.ownsRow lo eS 1 (.slice A n c) n zs → zs = ys := by
    intro zs hzs'
    rcases hys.2 with ⟨hv, h0⟩ | ⟨g, cap, cur, hv, _, hh, _, _, _, htk⟩
    · have e1 : ys = [] := List.eq_nil_of_length_eq_zero (by have := hys.1; omega)
      have e2 : zs = [] := List.eq_nil_of_length_eq_zero (by have := hzs'.1; omega)
      rw [e1, e2]
    · rcases hzs'.2 with ⟨hv', h0⟩ | ⟨g', cap', cur', hv', _, hh', _, _, _, htk'⟩
      · rw [hv] at hv'; cases hv'
      · rw [hv] at hv'
        injection hv' with e1
        injection e1 with e1
        injection e1 with e1
        subst e1
        rw [hh] at hh'
        injection hh' with hh'
        injection hh' with hh'
        subst hh'
        rw [← htk, ← htk']
  refine wpList_append_own_at (w.alloc (.cells #[.slice Ar nr cr] et)) hgd s x t ho lo eS i z 1 bytes ht hi hz hsize hby hzs (by decide) (.slice A n c) n ys hs (hys.alloc _)
    ⟨w.heap.size, 0, none⟩ 1 1 [.slice Ar nr cr] hx rfl ?_ ?_ h63 hbytes (by simp; omega) ?_
  · intro j v hv
    match j, hv with
    | 0, hv => simp at hv; subst hv; simp [Addr.add]
  · intro v hv; simp at hv; subst hv; rfl
  · intro v' w' hown' hg _ _
    obtain ⟨A', c', rfl⟩ := owns_form hown'
    have hg0 : w.grownBy w' (Value.slice A n c).ownBlock :=
      ⟨hg.os, hg.tape, hg.output, Nat.le_trans (by simp) hg.size, fun k hk hne' => (hg.block k (by simp; omega) hne').trans (Below.heap_alloc w _ k hk)⟩
    refine h A' c' w' ?_ ((Below.refl lo w).grown hg0 hbase fun k hk => (hys.lt k hk).1)
    exact hown.push hne (r := (Ar, nr, cr)) hrow hl h2 hh2 hhi hg0 (ownBlock_cells hys) (fun zs hzs' => by rw [hysM zs hzs']; exact hown')
end

end Go.Proofs.Ytlcepceomlfnbaa
