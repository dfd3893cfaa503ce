/- Words for slices in memory: a slice that reads as a list; a slice that the program made. No function of the program in sight. Conditions: stated with each theorem. -/
import Derived.WalkKit
import Derived.Below
import Derived.Laws.OwnMore
import Derived.Deep.Draws
import Derived.Maps.AppendAt
import Derived.OwnWalk
import Derived.OpenShut
namespace Go.Proofs.YtklgjhhlcpfkoaaDoor
open Go.RowKit

/-- The slice value '.slice A n c' holds the one-cell values xs, in a block below B. -/
def Rd (w : World) (B : Nat) (A : Option Addr) (n : Nat) (xs : List Value) : Prop :=
  xs.length = n ∧ (0 < n → ∃ b o, A = some ⟨b, o, none⟩ ∧ b < B ∧ ∀ j u, xs[j]? = some u → w.cell? ⟨b, o + j, none⟩ = some u)

/-- A slice that the program made: it reads as xs, in a block from lo on and below hi that holds nothing else. -/
def Own (w : World) (lo hi : Nat) (e : TypeId) (A : Option Addr) (n c : Nat) (xs : List Value) : Prop :=
  w.ownsRow lo e 1 (.slice A n c) n xs ∧ ∀ a, A = some a → a.block < hi

section
variable {w w' : World} {B B' lo hi n c : Nat} {e : TypeId} {A : Option Addr} {xs : List Value}

theorem Rd.nil : Rd w B A 0 [] := ⟨rfl, fun h => absurd h (Nat.lt_irrefl _)⟩
theorem Rd.len (h : Rd w B A n xs) : xs.length = n := h.1
theorem Rd.at_ {j : Nat} (h : Rd w B A n xs) (hj : j < n) :
    ∃ b o u, A = some ⟨b, o, none⟩ ∧ b < B ∧ xs[j]? = some u ∧ w.cell? ⟨b, o + j, none⟩ = some u := by
  obtain ⟨b, o, hA, hb, hc⟩ := h.2 (by omega)
  have hl : j < xs.length := by rw [h.1]; exact hj
  exact ⟨b, o, xs[j], hA, hb, List.getElem?_eq_getElem hl, hc j _ (List.getElem?_eq_getElem hl)⟩
theorem Rd.keep (h : Rd w B A n xs) (hk : ∀ p : Addr, p.block < B → w'.cell? p = w.cell? p) : Rd w' B A n xs :=
  ⟨h.1, fun hn => by
    obtain ⟨b, o, hA, hb, hc⟩ := h.2 hn
    exact ⟨b, o, hA, hb, fun j u hu => (hk _ hb).trans (hc j u hu)⟩⟩
theorem Rd.more (h : Rd w B A n xs) (hB : B ≤ B') : Rd w B' A n xs :=
  ⟨h.1, fun hn => by
    obtain ⟨b, o, hA, hb, hc⟩ := h.2 hn
    exact ⟨b, o, hA, by omega, hc⟩⟩
theorem Rd.below {C : Nat} (h : Rd w B A n xs) (hb : Below C w w') (hB : B ≤ C) : Rd w' B A n xs := h.keep fun _ hp => hb.cell (by omega)

/-- As a list of integers. -/
theorem Rd.int {k : IntKind} {zs : List Int} {j : Nat} (h : Rd w B A n (zs.map (.int k))) (hj : j < n) :
    ∃ b o x, A = some ⟨b, o, none⟩ ∧ b < B ∧ zs[j]? = some x ∧ w.cell? ⟨b, o + j, none⟩ = some (.int k x) := by
  obtain ⟨b, o, u, hA, hb, hu, hc⟩ := h.at_ hj
  rw [List.getElem?_map] at hu
  cases hz : zs[j]? with
  | none => rw [hz] at hu; cases hu
  | some x =>
    rw [hz] at hu
    simp only [Option.map_some, Option.some.injEq] at hu
    subst hu
    exact ⟨b, o, x, hA, hb, rfl, hc⟩
theorem Rd.ilen {k : IntKind} {zs : List Int} (h : Rd w B A n (zs.map (.int k))) : zs.length = n := by simpa using h.1

theorem Own.row (h : Own w lo hi e A n c xs) : w.ownsRow lo e 1 (.slice A n c) n xs := h.1
theorem Own.of (h : w.ownsRow lo e 1 (.slice A n c) n xs) (hh : w.heap.size ≤ hi) : Own w lo hi e A n c xs :=
  ⟨h, fun a ha => by subst ha; have := h.lt a.block rfl; omega⟩
theorem Own.len (h : Own w lo hi e A n c xs) : xs.length = n := by simpa using h.1.1
theorem Own.more (h : Own w lo hi e A n c xs) {lo' hi' : Nat} (hl : lo' ≤ lo) (hh : hi ≤ hi') : Own w lo' hi' e A n c xs := by
  refine ⟨⟨h.1.1, ?_⟩, fun a ha => by have := h.2 a ha; omega⟩
  rcases h.1.2 with ⟨hv, h0⟩ | ⟨g, cap, cur, hv, hg, r⟩
  · exact .inl ⟨hv, h0⟩
  · exact .inr ⟨g, cap, cur, hv, by omega, r⟩
theorem Own.cap (h : Own w lo hi e A n c xs) : n ≤ c := by
  rcases h.1.2 with ⟨hv, h0⟩ | ⟨g, cap, cur, hv, hg, hh, hc, r⟩
  · omega
  · injection hv with _ _ h3; omega
theorem Own.rd (h : Own w lo hi e A n c xs) : Rd w hi A n xs := by
  refine ⟨h.len, fun hn => ?_⟩
  rcases h.1.2 with ⟨hv, h0⟩ | ⟨g, cap, cur, hv, hg, hh, hc, hm, hs, ht⟩
  · omega
  · injection hv with h1 _ h3
    subst h1 h3
    refine ⟨g, 0, rfl, h.2 _ rfl, fun j u hu => ?_⟩
    rw [Nat.zero_add, cell_of_row w g j cur e (0, 0) hh]
    rw [← ht, List.getElem?_take] at hu
    split at hu
    · simpa using hu
    · cases hu
/-- What is below hi is as it was: so is the slice. -/
theorem Own.below {C : Nat} (h : Own w lo hi e A n c xs) (hb : Below C w w') (hC : hi ≤ C) : Own w' lo hi e A n c xs := by
  refine ⟨⟨h.1.1, ?_⟩, h.2⟩
  rcases h.1.2 with hv | ⟨g, cap, cur, hv, hg, hh, r⟩
  · exact .inl hv
  · refine .inr ⟨g, cap, cur, hv, hg, ?_, r⟩
    injection hv with h1
    have := h.2 _ h1
    rw [hb.block g (by simp only at this; omega)]
    exact hh
/-- A write to another block leaves the slice as it was. -/
theorem Own.grown {row : Option Nat} (h : Own w lo hi e A n c xs) (hg : w.grownBy w' row) (hr : ∀ g, row = some g → g < lo ∨ hi ≤ g) : Own w' lo hi e A n c xs := by
  refine ⟨⟨h.1.1, ?_⟩, h.2⟩
  rcases h.1.2 with hv | ⟨g, cap, cur, hv, hlo, hh, r⟩
  · exact .inl hv
  · refine .inr ⟨g, cap, cur, hv, hlo, ?_, r⟩
    injection hv with h1
    have h2 := h.2 _ h1
    have hlt := (Array.getElem?_eq_some_iff.1 hh).1
    rw [hg.block g hlt (fun e => by have := hr g e.symm; simp only at h2; omega)]
    exact hh
/-- A value that owns a row is a slice value. -/
theorem owns_form {v : Value} (h : w.ownsRow lo e 1 v n xs) : ∃ A c, v = .slice A n c := by
  rcases h.2 with ⟨rfl, rfl⟩ | ⟨g, cap, cur, rfl, _⟩
  · exact ⟨_, _, rfl⟩
  · exact ⟨_, _, rfl⟩
/-- The address of an owned slice that holds an element. -/
theorem Own.addr (h : Own w lo hi e A n c xs) (hn : 0 < n) : ∃ g, A = some ⟨g, 0, none⟩ ∧ lo ≤ g ∧ g < hi := by
  rcases h.1.2 with ⟨hv, h0⟩ | ⟨g, cap, cur, hv, hg, _⟩
  · omega
  · injection hv with h1
    exact ⟨g, h1, hg, h.2 _ h1⟩
end

theorem take_next {α : Type} {zs : List α} {j : Nat} {x : α} (h : zs[j]? = some x) : zs.take (j + 1) = zs.take j ++ [x] := by
  rw [List.take_add_one, h]; rfl
theorem drop_next {α : Type} {zs : List α} {j : Nat} {x : α} (h : zs[j]? = some x) : zs.drop j = x :: zs.drop (j + 1) := by
  obtain ⟨hl, he⟩ := List.getElem?_eq_some_iff.1 h
  rw [List.drop_eq_getElem_cons hl, he]

theorem made_ints (k : IntKind) (n : Nat) : (madeCells (Value.int k 0).cells (n * 1)).toList = List.replicate n (.int k 0) := by
  rw [Nat.mul_one]; exact toList_madeCells_one _ _

section
variable {P : Program} {ops : Array Oper} {rest : List Oper} {o : Oper} {a : Act} {Q : Exit → Act → World → Prop}

/-- 'append(out, x)': one element behind an owned row. The element lies in a block of its own by then. -/
theorem wpList_app1 (w : World) (hgd : o.guard = none) (s x : Operand) (t : TypeId)
    (ho : o.op = .call { callee := .builtin .append, args := #[s, x], argTypes := #[t, t] })
    (base : Nat) (e : TypeId) (i : TypeInfo) (z : Value) (bytes : Nat) (ht : P.underlying t = some (.slice e)) (hi : P.info? e = some i) (hz : i.zero = some z)
    (hsize : i.size = 1) (hby : i.bytes = bytes) (hzs : z.cells.size = 1)
    (A : Option Addr) (n c : Nat) (xs : List Value) (hs : a.eval s = .slice A n c) (hown : w.ownsRow base e 1 (.slice A n c) n xs)
    (u : Value) (hu : u.oneCell' = true) (et : TypeId) (hx : a.eval x = .slice (some ⟨w.heap.size, 0, none⟩) 1 1)
    (h63 : n + 1 ≤ maxLen) (hbytes : (n + 1) * bytes ≤ 140737488355328) (hbase : base ≤ w.heap.size)
    (h : ∀ A' c' w', w'.ownsRow base e 1 (.slice A' (n + 1) c') (n + 1) (xs ++ [u]) → Below base w w' → wpList P ops Q rest (a.put o.dst (.slice A' (n + 1) c')) w') :
    wpList P ops Q (o :: rest) a (w.alloc (.cells #[u] et)) := by
  refine wpList_append_own_at (w.alloc (.cells #[u] et)) hgd s x t ho base e i z 1 bytes ht hi hz hsize hby hzs (by decide) (.slice A n c) n xs hs (hown.alloc _)
    ⟨w.heap.size, 0, none⟩ 1 1 [u] hx rfl ?_ ?_ h63 hbytes (by simp; omega) ?_
  · intro j v hv
    match j, hv with
    | 0, hv => simp at hv; subst hv; simp [Addr.add]
  · intro v hv; simp at hv; subst hv; exact hu
  · intro v' w' hown' hg _ _
    obtain ⟨A', c', rfl⟩ := owns_form hown'
    refine h A' c' w' hown' ?_
    refine ((Below.refl base w).alloc hbase (.cells #[u] et)).grown hg (by simp; omega) ?_
    intro k hk
    exact (hown.lt k hk).1

/-- 'append(out, xs...)': a slice that reads as news behind an owned row. -/
theorem wpList_appAny (w : World) (hgd : o.guard = none) (s x : Operand) (t : TypeId)
    (ho : o.op = .call { callee := .builtin .append, args := #[s, x], argTypes := #[t, t] })
    (base : Nat) (e : TypeId) (i : TypeInfo) (z : Value) (bytes : Nat) (ht : P.underlying t = some (.slice e)) (hi : P.info? e = some i) (hz : i.zero = some z)
    (hsize : i.size = 1) (hby : i.bytes = bytes) (hzs : z.cells.size = 1)
    (A : Option Addr) (n c : Nat) (xs : List Value) (hs : a.eval s = .slice A n c) (hown : w.ownsRow base e 1 (.slice A n c) n xs)
    (B : Nat) (A2 : Option Addr) (m c2 : Nat) (news : List Value) (hx : a.eval x = .slice A2 m c2) (hr : Rd w B A2 m news) (h1 : ∀ u ∈ news, u.oneCell' = true)
    (h63 : n + m ≤ maxLen) (hbytes : (n + m) * bytes ≤ 140737488355328) (hbase : base ≤ w.heap.size)
    (h : ∀ A' c' w', w'.ownsRow base e 1 (.slice A' (n + m) c') (n + m) (xs ++ news) → Below base w w' → wpList P ops Q rest (a.put o.dst (.slice A' (n + m) c')) w') :
    wpList P ops Q (o :: rest) a w := by
  have hn := hr.1
  rcases A2 with _ | ad
  · have hm : m = 0 := by
      rcases Nat.eq_zero_or_pos m with h0 | h0
      · exact h0
      · obtain ⟨_, _, h', _⟩ := hr.2 h0
        cases h'
    subst hm
    have hnil : news = [] := List.eq_nil_of_length_eq_zero hn
    subst hnil
    have hrun : (Builtin.append_ #[t, t] o.type #[.slice A n c, .slice none 0 c2]).run P w = .ok (.slice A n c) w := by
      rcases hown.2 with ⟨hv, h0⟩ | ⟨g, cap, cur, hv, _, _, hnc, _⟩
      · injection hv with e1 e2 e3
        subst e1 e2 e3
        simp [Builtin.append_, run_underlying ht, sizeOf, typeInfo, hi, Builtin.lenOf, Builtin.firstCells]
      · injection hv with e1 e2 e3
        subst e1 e3
        simp [Builtin.append_, run_underlying ht, sizeOf, typeInfo, hi, Builtin.lenOf, Builtin.firstCells, hnc, storeCells]
    refine wpList_plain hgd fun K hK => ?_
    unfold Oper.wp execOp
    simp only [ho, resolve, invoke, builtin, Sem.run_bind, Sem.run_pure, Result.andThen_ok, List.map_toArray, List.map_cons, List.map_nil, hs, hx, hrun]
    exact hK _ _ (h A c w (by simpa using hown) (Below.refl _ _))
  · have hcells : ∀ j u, news[j]? = some u → w.cell? (ad.add j) = some u := by
      intro j u hu
      rcases Nat.eq_zero_or_pos m with h0 | h0
      · subst h0
        have hnil : news = [] := List.eq_nil_of_length_eq_zero hn
        subst hnil
        simp at hu
      · obtain ⟨b, off, h', _, hc⟩ := hr.2 h0
        injection h' with h'
        subst h'
        rw [Addr.add_lit]
        exact hc j u hu
    refine wpList_append_own_at w hgd s x t ho base e i z 1 bytes ht hi hz hsize hby hzs (by decide) (.slice A n c) n xs hs hown ad m c2 news hx (by omega) hcells h1 h63 hbytes hbase ?_
    intro v' w' hown' hg _ _
    obtain ⟨A', c', rfl⟩ := owns_form hown'
    exact h A' c' w' hown' ((Below.refl base w).grown hg hbase fun k hk => (hown.lt k hk).1)

/-- 'make([]T, n)', T an integer kind: n zeros are owned. -/
theorem wpList_mk (w : World) (hg : o.guard = none) (l c : Operand) (t : TypeId) (hop : o.op = Op.makeSlice t l c)
    (base : Nat) (e : TypeId) (i : TypeInfo) (kd : IntKind) (h1 : P.underlying t = some (.slice e)) (h2 : P.info? e = some i) (h3 : i.zero = some (.int kd 0)) (h4 : i.size = 1)
    (kl kc : IntKind) (L C : Int) (n : Nat) (hl : a.eval l = .int kl L) (hc : a.eval c = .int kc C) (hL : L = (n : Int)) (hC : C = (n : Int)) (b2 : i.bytes * n ≤ 281474976710656) (b3 : n ≤ maxLen) (b4 : base ≤ w.heap.size)
    (hK : ∀ w', w'.ownsRow base e 1 (.slice (some ⟨w.heap.size, 0, none⟩) n n) n (List.replicate n (.int kd 0)) → Below base w w' → wpList P ops Q rest (a.put o.dst (.slice (some ⟨w.heap.size, 0, none⟩) n n)) w') :
    wpList P ops Q (o :: rest) a w := by
  refine wpList_make_full w hg l c t hop base e i (.int kd 0) 1 h1 h2 h3 h4 kl kc L C n hl hc hL hC b2 b3 b4 ?_
  intro w' hown hgr
  refine hK w' ?_ ((Below.refl base w).grown hgr b4 (fun k hk => by cases hk))
  rw [made_ints] at hown
  exact hown
end

end Go.Proofs.YtklgjhhlcpfkoaaDoor
