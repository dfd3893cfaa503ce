/- Words for slices that are written place by place, and the law of an append in a region that draws its order. Conditions: stated with each theorem. -/
import Derived.Test.YtnobbojjhehdfaaMem
import Derived.RegionTactic
import Derived.Deep.RegionWith
import Derived.Deep.RegionHeld3
import Derived.Deep.RegionLaw
import Derived.Deep.DrawnRows
import Derived.IntWalk
namespace Go.Proofs.Ytnobbojjhehdfaa
open Go.RowKit
set_option maxRecDepth 100000

/-- The first k places of ys, the others of zs. -/
def mix (ys zs : List Int) (k : Nat) : List Int := ys.take k ++ zs.drop k
theorem mix_zero (ys zs : List Int) : mix ys zs 0 = zs := by simp [mix]
theorem mix_full {ys zs : List Int} {n : Nat} (h : zs.length = n) (hy : ys.length = n) : mix ys zs n = ys := by
  unfold mix; rw [List.take_of_length_le (by omega), List.drop_of_length_le (by omega), List.append_nil]
theorem mix_at {ys zs : List Int} {k : Nat} {x : Int} (hl : ys.length = zs.length) (hx : zs[k]? = some x) : (mix ys zs k)[k]? = some x := by
  have hk := (List.getElem?_eq_some_iff.1 hx).1
  have : (ys.take k).length = k := by simp; omega
  unfold mix
  rw [List.getElem?_append_right (by omega), this, Nat.sub_self, List.getElem?_drop, Nat.add_zero, hx]
theorem mix_next {ys zs : List Int} {k : Nat} {y : Int} (hl : ys.length = zs.length) (hy : ys[k]? = some y) : (mix ys zs k).set k y = mix ys zs (k + 1) := by
  have hk := (List.getElem?_eq_some_iff.1 hy).1
  have : (ys.take k).length = k := by simp; omega
  unfold mix
  rw [List.set_append, if_neg (by omega), this, Nat.sub_self, List.drop_eq_getElem_cons (by omega), List.set_cons_zero, take_next hy]
  simp
theorem rd_new1 (w : World) (t : TypeId) (x : Int) : Rd (w.alloc (.cells #[.int .i64 x] t)) (w.heap.size + 1) (some ⟨w.heap.size, 0, none⟩) 1 ([x].map (.int .i64)) := by
  refine ⟨rfl, fun _ => ⟨w.heap.size, 0, rfl, by omega, fun j u hu => ?_⟩⟩
  match j, hu with
  | 0, hu => simp at hu; subst hu; simp
/-- 'append(out, x)' at a step of a region that draws its order. -/
theorem step_app1 {P : Program} {ops : Array Oper} {o : Oper} {a : Act} {K : Act → World → Prop} {Q : Exit → Act → World → Prop} {E : Prop} (w : World) (hgd : o.guard = none) (s x : Operand) (t : TypeId)
    (ho : o.op = .call { callee := .builtin .append, args := #[s, x], argTypes := #[t, t] })
    (base : Nat) (e : TypeId) (i : TypeInfo) (z : Value) (bytes : Nat) (ht : P.underlying t = some (.slice e)) (hi : P.info? e = some i) (hz : i.zero = some z)
    (hsize : i.size = 1) (hby : i.bytes = bytes) (hzs : z.cells.size = 1)
    (A : Option Addr) (n c : Nat) (xs : List Value) (hs : a.eval s = .slice A n c) (hown : w.ownsRow base e 1 (.slice A n c) n xs)
    (u : Value) (hu : u.oneCell' = true) (et : TypeId) (hx : a.eval x = .slice (some ⟨w.heap.size, 0, none⟩) 1 1)
    (h63 : n + 1 ≤ maxLen) (hbytes : (n + 1) * bytes ≤ 140737488355328) (hbase : base ≤ w.heap.size)
    (h : ∀ A' c' w', w'.ownsRow base e 1 (.slice A' (n + 1) c') (n + 1) (xs ++ [u]) → Below base w w' → K (a.put o.dst (.slice A' (n + 1) c')) w') :
    if Region.wanted o (yielded ops a.tmps) = true then Oper.wp P o a (w.alloc (.cells #[u] et)) K Q else E := by
  have hw : Region.wanted o (yielded ops a.tmps) = true := by simp [Region.wanted, hgd]
  rw [if_pos hw]
  obtain ⟨v', w', hr, h2, h3, _, _⟩ := run_append_own_at (P := P) (w.alloc (.cells #[u] et)) base t o.type e i z 1 bytes ht hi hz hsize hby hzs (by decide) (.slice A n c) n xs (hown.alloc _)
    ⟨w.heap.size, 0, none⟩ 1 1 [u] rfl (fun j v hv => by
      match j, hv with
      | 0, hv => simp at hv; subst hv; simp [Addr.add]) (fun v hv => by simp at hv; subst hv; exact hu) h63 hbytes (by simp; omega)
  obtain ⟨A', c', rfl⟩ := owns_form h2
  have hb : Below base w w' := ((Below.refl base w).alloc hbase (.cells #[u] et)).grown h3 (by simp; omega) (fun k hk => (hown.lt k hk).1)
  unfold Oper.wp execOp
  simp only [ho, resolve, invoke, builtin, Sem.run_bind, Sem.run_pure, Result.andThen_ok, List.map_toArray, List.map_cons, List.map_nil, hs, hx, hr]
  exact h A' c' w' h2 hb
/-- The same, the draw outermost. -/
theorem step_app1d {P : Program} {ops : Array Oper} {o : Oper} {a : Act} {K : Act → World → Prop} {Q : Exit → Act → World → Prop} {E : Prop} (w : World) (hgd : o.guard = none) (s x : Operand) (t : TypeId)
    (ho : o.op = .call { callee := .builtin .append, args := #[s, x], argTypes := #[t, t] })
    (base : Nat) (e : TypeId) (i : TypeInfo) (z : Value) (bytes : Nat) (ht : P.underlying t = some (.slice e)) (hi : P.info? e = some i) (hz : i.zero = some z)
    (hsize : i.size = 1) (hby : i.bytes = bytes) (hzs : z.cells.size = 1)
    (A : Option Addr) (n c : Nat) (xs : List Value) (hs : a.eval s = .slice A n c) (hown : w.ownsRow base e 1 (.slice A n c) n xs)
    (u : Value) (hu : u.oneCell' = true) (et : TypeId) (hx : a.eval x = .slice (some ⟨w.heap.size, 0, none⟩) 1 1)
    (h63 : n + 1 ≤ maxLen) (hbytes : (n + 1) * bytes ≤ 140737488355328) (hbase : base ≤ w.heap.size)
    (h : ∀ A' c' w', w'.ownsRow base e 1 (.slice A' (n + 1) c') (n + 1) (xs ++ [u]) → Below base w w' → K (a.put o.dst (.slice A' (n + 1) c')) w') :
    if Region.wanted o (yielded ops a.tmps) = true then Oper.wp P o a (w.alloc (.cells #[u] et)).drew K Q else E :=
  step_app1 w.drew hgd s x t ho base e i z bytes ht hi hz hsize hby hzs A n c xs hs hown u hu et hx h63 hbytes hbase
    fun A' c' w' h1 h2 => h A' c' w' h1 ⟨h2.os, h2.tape, h2.output, h2.size, h2.block⟩

end Go.Proofs.Ytnobbojjhehdfaa
