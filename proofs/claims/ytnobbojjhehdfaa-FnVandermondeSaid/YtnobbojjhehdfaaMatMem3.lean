/- The law of a row appended to a matrix at a step of a region that draws its order. No function of the program in sight. Conditions: stated with each theorem. -/
import Derived.Test.YtnobbojjhehdfaaMatMem2
namespace Go.Proofs.Ytnobbojjhehdfaa
open Go.RowKit
set_option maxRecDepth 100000

theorem run_appRow {P : Program} (w : World) (t ty : TypeId) (eI eS : TypeId) (hne : eI ≠ eS) (i : TypeInfo) (z : Value) (bytes : Nat) (ht : P.underlying t = some (.slice eS)) (hi : P.info? eS = some i) (hz : i.zero = some z)
    (hsize : i.size = 1) (hby : i.bytes = bytes) (hzs : z.cells.size = 1)
    (lo hi' lo2 hi2 : Nat) (A : Option Addr) (n c : Nat) (rows : List (List Int)) (hown : OwnM eI eS w lo hi' A n c rows)
    (Ar : Option Addr) (nr cr : Nat) (xs : List Int) (hrow : Own w lo2 hi2 eI Ar nr cr (xs.map (.int .i64))) (hl : lo ≤ lo2) (h2 : hi' ≤ lo2) (hh2 : hi2 ≤ w.heap.size)
    (et : TypeId)
    (h63 : n + 1 ≤ maxLen) (hbytes : (n + 1) * bytes ≤ 140737488355328) (hbase : lo ≤ w.heap.size) (hhi : hi' ≤ w.heap.size) :
    ∃ A' c' w', (Builtin.append_ #[t, t] ty #[.slice A n c, .slice (some ⟨w.heap.size, 0, none⟩) 1 1]).run P (w.alloc (.cells #[.slice Ar nr cr] et)) = .ok (.slice A' (n + 1) c') w' ∧ OwnM eI eS w' lo w'.heap.size A' (n + 1) c' (rows ++ [xs]) ∧ Below lo w w' := by
  obtain ⟨ys, hys⟩ : ∃ ys, w.ownsRow lo eS 1 (.slice A n c) n ys := by obtain ⟨rs, h1, _⟩ := hown; exact ⟨_, h1.1⟩
  have hysM : ∀ zs, w.ownsRow lo eS 1 (.slice A n c) n zs → zs = ys := by
    intro zs hzs'
    rcases hys.2 with ⟨hv, h0⟩ | ⟨g, cap, cur, hv, _, hh, _, _, _, htk⟩
    · have e1 : ys = [] := List.eq_nil_of_length_eq_zero (by have := hys.1; omega)
      have e2 : zs = [] := List.eq_nil_of_length_eq_zero (by have := hzs'.1; omega)
      rw [e1, e2]
    · rcases hzs'.2 with ⟨hv', h0⟩ | ⟨g', cap', cur', hv', _, hh', _, _, _, htk'⟩
      · rw [hv] at hv'; cases hv'
      · rw [hv] at hv'
        injection hv' with e1
        injection e1 with e1
        injection e1 with e1
        subst e1
        rw [hh] at hh'
        injection hh' with hh'
        injection hh' with hh'
        subst hh'
        rw [← htk, ← htk']
  obtain ⟨v', w', hr, hown', hg, _, _⟩ := run_append_own_at (P := P) (w.alloc (.cells #[.slice Ar nr cr] et)) lo t ty eS i z 1 bytes ht hi hz hsize hby hzs (by decide) (.slice A n c) n ys (hys.alloc _)
    ⟨w.heap.size, 0, none⟩ 1 1 [.slice Ar nr cr] rfl (fun j v hv => by
      match j, hv with
      | 0, hv => simp at hv; subst hv; simp [Addr.add]) (fun v hv => by simp at hv; subst hv; rfl) h63 hbytes (by simp; omega)
  obtain ⟨A', c', rfl⟩ := owns_form hown'
  have hg0 : w.grownBy w' (Value.slice A n c).ownBlock :=
    ⟨hg.os, hg.tape, hg.output, Nat.le_trans (by simp) hg.size, fun k hk hne' => (hg.block k (by simp; omega) hne').trans (Below.heap_alloc w _ k hk)⟩
  exact ⟨A', c', w', hr, hown.push hne (r := (Ar, nr, cr)) hrow hl h2 hh2 hhi hg0 (ownBlock_cells hys) (fun zs hzs' => by rw [hysM zs hzs']; exact hown'), (Below.refl lo w).grown hg0 hbase fun k hk => (hys.lt k hk).1⟩

section
variable {P : Program} {ops : Array Oper} {o : Oper} {a : Act} {Q : Exit → Act → World → Prop} {K : Act → World → Prop} {E : Prop}
/-- 'append(out, row)' at a step of a region that draws its order. -/
theorem step_appRow (w : World) (hgd : o.guard = none) (s x : Operand) (t : TypeId)
    (ho : o.op = .call { callee := .builtin .append, args := #[s, x], argTypes := #[t, t] })
    (eI eS : TypeId) (hne : eI ≠ eS) (i : TypeInfo) (z : Value) (bytes : Nat) (ht : P.underlying t = some (.slice eS)) (hi : P.info? eS = some i) (hz : i.zero = some z)
    (hsize : i.size = 1) (hby : i.bytes = bytes) (hzs : z.cells.size = 1)
    (lo hi' lo2 hi2 : Nat) (A : Option Addr) (n c : Nat) (rows : List (List Int)) (hs : a.eval s = .slice A n c) (hown : OwnM eI eS w lo hi' A n c rows)
    (Ar : Option Addr) (nr cr : Nat) (xs : List Int) (hrow : Own w lo2 hi2 eI Ar nr cr (xs.map (.int .i64))) (hl : lo ≤ lo2) (h2 : hi' ≤ lo2) (hh2 : hi2 ≤ w.heap.size)
    (et : TypeId) (hx : a.eval x = .slice (some ⟨w.heap.size, 0, none⟩) 1 1)
    (h63 : n + 1 ≤ maxLen) (hbytes : (n + 1) * bytes ≤ 140737488355328) (hbase : lo ≤ w.heap.size) (hhi : hi' ≤ w.heap.size)
    (h : ∀ A' c' w', OwnM eI eS w' lo w'.heap.size A' (n + 1) c' (rows ++ [xs]) → Below lo w w' → K (a.put o.dst (.slice A' (n + 1) c')) w') :
    if Region.wanted o (yielded ops a.tmps) = true then Oper.wp P o a (w.alloc (.cells #[.slice Ar nr cr] et)).drew K Q else E := by
  have hw : Region.wanted o (yielded ops a.tmps) = true := by simp [Region.wanted, hgd]
  rw [if_pos hw]
  obtain ⟨A', c', w', hr, h3, h4⟩ := run_appRow (P := P) w.drew t o.type eI eS hne i z bytes ht hi hz hsize hby hzs lo hi' lo2 hi2 A n c rows hown Ar nr cr xs hrow hl h2 hh2 et h63 hbytes hbase hhi
  have hr' : (Builtin.append_ #[t, t] o.type #[.slice A n c, .slice (some ⟨w.heap.size, 0, none⟩) 1 1]).run P (w.alloc (.cells #[.slice Ar nr cr] et)).drew = .ok (.slice A' (n + 1) c') w' := hr
  unfold Oper.wp execOp
  simp only [ho, resolve, invoke, builtin, Sem.run_bind, Sem.run_pure, Result.andThen_ok, List.map_toArray, List.map_cons, List.map_nil, hs, hx, hr']
  exact h A' c' w' h3 ⟨h4.os, h4.tape, h4.output, h4.size, h4.block⟩
/-- The same, no draw outermost. -/
theorem step_appRow0 (w : World) (hgd : o.guard = none) (s x : Operand) (t : TypeId)
    (ho : o.op = .call { callee := .builtin .append, args := #[s, x], argTypes := #[t, t] })
    (eI eS : TypeId) (hne : eI ≠ eS) (i : TypeInfo) (z : Value) (bytes : Nat) (ht : P.underlying t = some (.slice eS)) (hi : P.info? eS = some i) (hz : i.zero = some z)
    (hsize : i.size = 1) (hby : i.bytes = bytes) (hzs : z.cells.size = 1)
    (lo hi' lo2 hi2 : Nat) (A : Option Addr) (n c : Nat) (rows : List (List Int)) (hs : a.eval s = .slice A n c) (hown : OwnM eI eS w lo hi' A n c rows)
    (Ar : Option Addr) (nr cr : Nat) (xs : List Int) (hrow : Own w lo2 hi2 eI Ar nr cr (xs.map (.int .i64))) (hl : lo ≤ lo2) (h2 : hi' ≤ lo2) (hh2 : hi2 ≤ w.heap.size)
    (et : TypeId) (hx : a.eval x = .slice (some ⟨w.heap.size, 0, none⟩) 1 1)
    (h63 : n + 1 ≤ maxLen) (hbytes : (n + 1) * bytes ≤ 140737488355328) (hbase : lo ≤ w.heap.size) (hhi : hi' ≤ w.heap.size)
    (h : ∀ A' c' w', OwnM eI eS w' lo w'.heap.size A' (n + 1) c' (rows ++ [xs]) → Below lo w w' → K (a.put o.dst (.slice A' (n + 1) c')) w') :
    if Region.wanted o (yielded ops a.tmps) = true then Oper.wp P o a (w.alloc (.cells #[.slice Ar nr cr] et)) K Q else E := by
  have hw : Region.wanted o (yielded ops a.tmps) = true := by simp [Region.wanted, hgd]
  rw [if_pos hw]
  obtain ⟨A', c', w', hr, h3, h4⟩ := run_appRow (P := P) w t o.type eI eS hne i z bytes ht hi hz hsize hby hzs lo hi' lo2 hi2 A n c rows hown Ar nr cr xs hrow hl h2 hh2 et h63 hbytes hbase hhi
  have hr' : (Builtin.append_ #[t, t] o.type #[.slice A n c, .slice (some ⟨w.heap.size, 0, none⟩) 1 1]).run P (w.alloc (.cells #[.slice Ar nr cr] et)) = .ok (.slice A' (n + 1) c') w' := hr
  unfold Oper.wp execOp
  simp only [ho, resolve, invoke, builtin, Sem.run_bind, Sem.run_pure, Result.andThen_ok, List.map_toArray, List.map_cons, List.map_nil, hs, hx, hr']
  exact h A' c' w' h3 ⟨h4.os, h4.tape, h4.output, h4.size, h4.block⟩
end

end Go.Proofs.Ytnobbojjhehdfaa
