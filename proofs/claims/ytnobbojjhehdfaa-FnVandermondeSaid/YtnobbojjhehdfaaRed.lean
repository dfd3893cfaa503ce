/- Contracts of the elimination: how many rows it leaves of a matrix of full rank. Conditions: stated with each theorem. -/
import Derived.Test.YtnobbojjhehdfaaPlainV
import Derived.Test.YtnobbojjhehdfaaMatMem3
import Derived.Deep.RegionHeld3
import Derived.Deep.Cut
import Derived.Deep.RegionWith
namespace Go.Proofs.Ytnobbojjhehdfaa
open Go.RowKit
set_option maxRecDepth 100000

/-- A matrix whose outer slice the program made and whose rows lie in memory that it made; rows may share memory. -/
def OwnW (eI eS : TypeId) (w : World) (lo hi : Nat) (A : Option Addr) (n c : Nat) (rows : List (List Int)) : Prop :=
  ∃ rs : List (Option Addr × Nat × Nat), Own w lo hi eS A n c (rs.map slv) ∧ rs.length = rows.length ∧
    ∀ (j : Nat) (r : Option Addr × Nat × Nat) (xs : List Int), rs[j]? = some r → rows[j]? = some xs → Own w lo hi eI r.1 r.2.1 r.2.2 (xs.map (.int .i64))
section
variable {eI eS : TypeId} {w w' : World} {lo hi n c : Nat} {A : Option Addr} {rows : List (List Int)}
theorem OwnM.loose (h : OwnM eI eS w lo hi A n c rows) : OwnW eI eS w lo hi A n c rows := by
  obtain ⟨rs, h1, h2, h3, _⟩ := h
  exact ⟨rs, h1, h2, h3⟩
theorem OwnW.len (h : OwnW eI eS w lo hi A n c rows) : rows.length = n := by
  obtain ⟨rs, h1, h2, _⟩ := h
  have := h1.len
  simp only [List.length_map] at this
  omega
theorem OwnW.cap (h : OwnW eI eS w lo hi A n c rows) : n ≤ c ∧ c ≤ 9223372036854775807 := by
  obtain ⟨rs, h1, _⟩ := h
  exact ⟨h1.cap, h1.capm⟩
theorem OwnW.below {C : Nat} (h : OwnW eI eS w lo hi A n c rows) (hb : Below C w w') (hC : hi ≤ C) : OwnW eI eS w' lo hi A n c rows := by
  obtain ⟨rs, h1, h2, h3⟩ := h
  exact ⟨rs, h1.below hb hC, h2, fun j r xs hr hx => (h3 j r xs hr hx).below hb hC⟩
theorem OwnW.more (h : OwnW eI eS w lo hi A n c rows) {lo' hi' : Nat} (hl : lo' ≤ lo) (hh : hi ≤ hi') : OwnW eI eS w lo' hi' A n c rows := by
  obtain ⟨rs, h1, h2, h3⟩ := h
  exact ⟨rs, h1.more hl hh, h2, fun j r xs hr hx => (h3 j r xs hr hx).more hl hh⟩
/-- A row: the cell that holds its slice, and what it reads as. -/
theorem OwnW.rowAt {j : Nat} (h : OwnW eI eS w lo hi A n c rows) (hj : j < n) :
    ∃ g Aj nj cj ys, A = some ⟨g, 0, none⟩ ∧ lo ≤ g ∧ g < hi ∧ rows[j]? = some ys ∧ w.cell? ⟨g, j, none⟩ = some (.slice Aj nj cj) ∧ w.frozen? ⟨g, j, none⟩ = false ∧ Own w lo hi eI Aj nj cj (ys.map (.int .i64)) := by
  have hlen := h.len
  obtain ⟨rs, h1, h2, h3⟩ := h
  obtain ⟨g, rfl, hlo, hhi⟩ := h1.addr (by omega)
  have hrl : j < rs.length := by omega
  have hr : rs[j]? = some rs[j] := List.getElem?_eq_getElem hrl
  have hy : rows[j]? = some rows[j] := List.getElem?_eq_getElem (by omega)
  have hcell : w.cell? ⟨g, j, none⟩ = some (slv rs[j]) := by
    rw [h1.1.cellAt j (by omega), List.getElem?_map, hr]; rfl
  exact ⟨g, rs[j].1, rs[j].2.1, rs[j].2.2, rows[j], rfl, hlo, hhi, hy, hcell, h1.1.frozenAt j, h3 j _ _ hr hy⟩
/-- A row is laid. -/
theorem OwnW.setRow {g j : Nat} {Ar : Option Addr} {nr cr : Nat} {xs : List Int} {lo2 hi2 : Nat} (h : OwnW eI eS w lo hi (some ⟨g, 0, none⟩) n c rows) (hne : eI ≠ eS)
    (ho : Own w lo2 hi2 eI Ar nr cr (xs.map (.int .i64))) (hl : lo ≤ lo2) (hh : hi ≤ hi2) :
    OwnW eI eS (w.setCell ⟨g, j, none⟩ (.slice Ar nr cr)) lo hi2 (some ⟨g, 0, none⟩) n c (rows.set j xs) := by
  obtain ⟨rs, h1, hlen, h3⟩ := h
  have hblk : ∃ cur, w.heap[g]? = some (.cells cur eS (0, 0)) := ownBlock_cells h1.1 g rfl
  obtain ⟨cur, hcur⟩ := hblk
  refine ⟨rs.set j (Ar, nr, cr), ?_, by simpa using hlen, fun i s ys hs hy => ?_⟩
  · rw [List.map_set]
    have := (h1.1.stored j (slv (Ar, nr, cr))).1
    exact ⟨this, fun a ha => by have := h1.2 a ha; omega⟩
  · rw [List.getElem?_set] at hs hy
    by_cases hij : j = i
    · subst hij
      rw [if_pos rfl] at hs hy
      split at hs
      · rw [if_pos (by omega)] at hy
        simp only [Option.some.injEq] at hs hy
        subst hs hy
        exact (ho.more hl (Nat.le_refl _)).setOther hcur hne _
      · cases hs
    · rw [if_neg hij] at hs hy
      exact ((h3 i s ys hs hy).more (Nat.le_refl _) hh).setOther hcur hne _
/-- A row of integers stays as it is when the outer slice is written. -/
theorem OwnW.other {g j lo2 hi2 : Nat} {Ar : Option Addr} {nr cr : Nat} {xs : List Value} (h : OwnW eI eS w lo hi (some ⟨g, 0, none⟩) n c rows) (hne : eI ≠ eS) (ho : Own w lo2 hi2 eI Ar nr cr xs) (u : Value) : Own (w.setCell ⟨g, j, none⟩ u) lo2 hi2 eI Ar nr cr xs := by
  obtain ⟨rs, h1, _⟩ := h
  obtain ⟨cur, hcur⟩ := ownBlock_cells h1.1 g rfl
  exact ho.setOther hcur hne _
end
/-- A slice of k elements is handed back; nothing that was there has turned. -/
def Shorts (k : Nat) (w : World) (r : Ending) (w' : World) : Prop := ∃ A c, r = .returned (.slice A k c) ∧ Below w.heap.size w w'

set_option maxHeartbeats 2000000 in
theorem spec_l6Copy (A : Option Addr) (n c : Nat) (rows : List (List Int)) (w : World) (hr : RdM w w.heap.size A n rows) (hn : n ≤ 1000) (hrn : ∀ xs ∈ rows, xs.length ≤ 1000) :
    Calls Try.prog 127 #[.slice A n c] w (FreshM 3 30 w rows) := by
  obtain ⟨i0, hi0, hz0, hz1, hz2⟩ := info_parts Try.info_row
  obtain ⟨j0, hj0, hy0, hy1, hy2⟩ := info_parts Try.info_int
  have HL := Lib.hid hr.len
  have HRN := Lib.hid hrn
  clear hrn
  go_enter Try.func127, Try.ntmps127
  go_wp2_with fail
  go_loopw [3, 4] (fun v i wr => ∃ (k : Nat) (A1 : Option Addr) (c1 : Nat), k ≤ n ∧ i = .int .i64 k ∧ v = .slice A1 k c1 ∧ OwnM 3 30 wr w.heap.size wr.heap.size A1 k c1 (rows.take k) ∧ Below w.heap.size w wr) (fun _ i _ => n - (intOf i).toNat)
  case atStart => exact ⟨0, _, _, Nat.zero_le _, rfl, rfl, OwnM.lit (Nat.le_refl _) (by simp), (Below.refl _ _).alloc (Nat.le_refl _) _⟩
  case round =>
    obtain ⟨k, A1, c1, hk, rfl, rfl, hown, hb⟩ := hrel
    have hsz := hb.size
    by_cases hlt : k < n
    · obtain ⟨b, o, Aj, nj, cj, xs, rfl, hbB, hx, hc, _, _, hrd⟩ := (hr.below hb (Nat.le_refl _)).at_ hlt
      have hnj : nj ≤ 1000 := by rw [← hrd.ilen]; exact HRN.out xs (List.mem_of_getElem? hx)
      have HT := Lib.hid (take_next hx)
      clear hx
      have hrd1 := hrd.below ((Below.refl wr.heap.size wr).alloc (Nat.le_refl _) (.cells #[] 3)) hsz
      have hc1 : (wr.alloc (.cells #[] 3)).cell? ⟨b, o + k, none⟩ = some (.slice Aj nj cj) := (((Below.refl wr.heap.size wr).alloc (Nat.le_refl _) (.cells #[] 3)).cell (p := ⟨b, o + k, none⟩) (by simp only; omega)).trans hc
      go_wp2_with (first
        | (at_builtin; refine wpList_appAny _ rfl (.tmp 13) (.tmp 17) _ rfl wr.heap.size 3 j0 _ 8 Try.underlying30 hj0 hy0 hy1 hy2 rfl _ 0 0 [] rfl (World.ownsRow_lit wr #[] 0 (Nat.le_refl _) (by decide) rfl) w.heap.size Aj nj cj _ rfl hrd1 (one_ints _ _) (by unfold maxLen; omega) (by omega) (by simp) ?_; intro A2 c2 w2 hown2 hb2; simp only [Nat.zero_add, List.nil_append] at hown2; replace hb2 := ((Below.refl _ _).alloc (Nat.le_refl _) _).trans hb2; have hs2 := hb2.size; have hm2 := hown.below hb2 (Nat.le_refl _); have ho2 := Own.of hown2 (Nat.le_refl _))
        | (at_builtin; refine wpList_appRow _ rfl (.tmp 12) (.tmp 19) _ rfl 3 30 (by decide) i0 _ 24 Try.underlying24 hi0 hz0 hz1 hz2 rfl w.heap.size wr.heap.size wr.heap.size w2.heap.size A1 k c1 _ rfl hm2 A2 nj c2 _ ho2 hsz (Nat.le_refl _) (Nat.le_refl _) _ rfl (by unfold maxLen; omega) (by omega) (by omega) hs2 ?_; intro A3 c3 w3 hown3 hb3)
        | fail)
      go_roundw
      case rel => exact ⟨k + 1, A3, c3, by omega, by go_num, rfl, by rw [HT.out]; exact hown3, (hb.trans (hb2.mono hsz)).trans hb3⟩
      case measure => simp [intOf]; omega
    · obtain rfl : k = n := by omega
      go_wp2_with fail
      go_ret
      rw [List.take_of_length_le (by rw [HL.out]; exact Nat.le_refl _)] at hown
      exact ⟨_, _, _, rfl, hown, hb⟩

set_option maxHeartbeats 8000000 in
theorem spec_l7Reduce (A : Option Addr) (n c : Nat) (V : List (List Int)) (q : Nat) (w : World) (hr : RdM w w.heap.size A n V) (hs : Nc.shape V n q) (hF : Nc.Full V n q) (hn : n ≤ 40) (hq : q ≤ 40) :
    Calls Try.prog 125 #[.slice A n c, .int .i64 q] w (Shorts (min n q) w) := by
  have HS := Lib.hid (Nc.elim_start hs)
  have HF := Lib.hid hF
  have HROWS := Lib.hid (show ∀ xs ∈ V, xs.length ≤ 1000 from fun xs hxs => by rw [(hs.2 xs hxs).2]; omega)
  clear hs hF
  go_enter Try.func125, Try.ntmps125
  go_wp2_with fail
  refine (spec_l6Copy _ _ _ V _ hr (by omega) HROWS.out).mono ?_
  rintro e w1 ⟨A1, n1, c1, rfl, ho1, hb1⟩
  obtain rfl : n = n1 := by rw [← ho1.len, hr.len]
  have how := ho1.loose
  obtain ⟨hc1, hc2⟩ := how.cap
  clear ho1
  go_wp2_with fail
  go_loopw [6, 7] (fun av kv wr => ∃ (k : Nat) (R : List (List Int)), k ≤ n ∧ k ≤ q ∧ av = .int .i64 k ∧ kv = .int .i64 k ∧ OwnW 3 30 wr w.heap.size wr.heap.size A1 n c1 R ∧ Hid (Nc.Elim V R n q k) ∧ Below w.heap.size w wr) (fun _ kv _ => q - (intOf kv).toNat)
  case atStart => exact ⟨0, V, Nat.zero_le _, Nat.zero_le _, rfl, rfl, how, HS, hb1⟩
  case round =>
    clear how hb1
    obtain ⟨k, R, hkn, hkq, rfl, rfl, hown, hel, hb⟩ := hrel
    have hsz := hb.size
    by_cases h1 : k < q
    · by_cases h2 : k < n
      · obtain ⟨wo, hwo⟩ : ∃ wo : World, wo = wr := ⟨_, rfl⟩
        subst hwo
        go_wp2_with fail
        go_loop [8] (fun pv => ∃ p : Nat, k ≤ p ∧ p ≤ n ∧ pv = .int .i64 p ∧ Hid (Nc.zeroTo R k p)) (fun pv => n - (intOf pv).toNat)
        case atStart => exact ⟨k, Nat.le_refl _, hkn, rfl, Lib.hid (fun i h3 h4 => by omega)⟩
        case round =>
          obtain ⟨p, hkp, hpn, rfl, hz⟩ := hrel
          by_cases hp : p < n
          · obtain ⟨g, Ap, np, cp, yp, rfl, hglo, hghi, hyp, hcellp, hfzp, hrowp⟩ := hown.rowAt hp
            obtain ⟨sp1, sp2, sp3⟩ := Nc.shape_at hel.out.1 hp
            obtain rfl : R.getD p [] = yp := by rw [sp1] at hyp; injection hyp
            obtain rfl : q = np := by have t := hrowp.len; simp only [List.length_map] at t; omega
            obtain ⟨bp, op, x, rfl, hbp, hx, hcx⟩ := hrowp.rd.int h1
            have HX := Lib.hid (show Nc.ent R p k = x by unfold Nc.ent; rw [List.getD_eq_getElem?_getD, hx]; rfl)
            have hxb := Nc.ent_bd hel.out.1 hp h1
            rw [HX.out] at hxb
            obtain ⟨x0, x1⟩ := hxb
            have HXI := Lib.hid hx
            clear hyp sp1 hx
            by_cases hx0 : x = 0
            · have e0 : (x == 0) = true := by simp [hx0]
              have HZ2 := Lib.hid (show Nc.zeroTo R k (p + 1) from fun i h3 h4 => by
                by_cases h5 : i < p
                · exact hz.out i h3 h5
                · obtain rfl : i = p := by omega
                  rw [HX.out, hx0])
              clear hx0
              go_wp2_with fail
              go_round
              case rel => exact ⟨p + 1, by omega, by omega, by go_num, HZ2⟩
              case measure => simp [intOf]; omega
            · have e0 : (x == 0) = false := by simpa using hx0
              have e1 : ((p : Int) == n) = false := by simp; omega
              have HX0 := Lib.hid hx0
              obtain ⟨g2, Ak, nk, ck, yk, hg2, _, _, hyk, hcellk, hfzk, hrowk⟩ := hown.rowAt h2
              obtain rfl : g = g2 := by injection hg2 with hg2; injection hg2
              obtain ⟨sk1, sk2, sk3⟩ := Nc.shape_at hel.out.1 h2
              obtain rfl : R.getD k [] = yk := by rw [sk1] at hyk; injection hyk
              clear hg2 hyk sk1 hx0
              go_upto_region 12 with (fail)
              generalize hW : wo.setCell _ _ = W1
              have hz1 : wo.heap.size ≤ W1.heap.size := by rw [← hW]; simp [World.setCell]
              have hz2 : W1.heap.size ≤ wo.heap.size := by rw [← hW]; simp [World.setCell]
              have hown1 : OwnW 3 30 W1 w.heap.size wo.heap.size (some ⟨g, 0, none⟩) n c1 (R.set p (R.getD k [])) := by rw [← hW]; exact hown.setRow (by decide) hrowk (Nat.le_refl _) (Nat.le_refl _)
              have hrowp1 : Own W1 w.heap.size wo.heap.size 3 (some ⟨bp, op, none⟩) q cp ((R.getD p []).map (.int .i64)) := by rw [← hW]; exact hown.other (by decide) hrowp _
              have hcx1 : W1.cell? ⟨bp, op + k, none⟩ = some (.int .i64 x) := by
                obtain ⟨b', o', x', hA, _, hx', hc'⟩ := hrowp1.rd.int h1
                injection hA with hA
                injection hA with hA1 hA2
                subst hA1 hA2
                rw [HXI.out] at hx'
                injection hx' with hx'
                subst hx'
                exact hc'
              have hb1 : Below w.heap.size w W1 := by rw [← hW]; exact hb.setCell hglo _
              clear hW hcellp hfzp hcellk hfzk hcx hown hrowp hrowk hb
              go_wp2_with fail
              refine (spec_InverseField x _).mono ?_
              rintro e w' ⟨rfl, rfl⟩
              go_wp2_with fail
              refine (spec_ScaleVector _ _ _ (Nc.invF x) (R.getD p []) _ (hrowp1.rd.more (by omega)) (by omega)).mono ?_
              rintro e w2 ⟨A3, n3, c3, rfl, o3, hb2⟩
              have hs2 := hb2.size
              have hown2 := hown1.below hb2 (by omega)
              obtain ⟨g3, A4, n4, c4, y4, hg3, _, _, _, hcell2, hfz2, _⟩ := hown2.rowAt h2
              obtain rfl : g = g3 := by injection hg3 with hg3; injection hg3
              have hown3 : OwnW 3 30 (w2.setCell ⟨g, k, none⟩ (.slice A3 n3 c3)) w.heap.size w2.heap.size (some ⟨g, 0, none⟩) n c1 (Nc.swapR R k p) := by
                have := hown2.setRow (j := k) (by decide) o3 (by omega) (by omega)
                unfold Nc.swapR
                rw [HX.out]
                exact this
              have hb3 : Below w.heap.size w (w2.setCell ⟨g, k, none⟩ (.slice A3 n3 c3)) := (hb1.trans (hb2.mono (by omega))).setCell hglo _
              have HRND := Lib.hid (Nc.elim_next hel.out h2 h1 hkp hp (by rw [HX.out]; exact HX0.out))
              have HSH := Lib.hid (Nc.swap_shape hel.out.1 h2 hp h1)
              have hz3 : w2.heap.size ≤ (w2.setCell ⟨g, k, none⟩ (.slice A3 n3 c3)).heap.size := by simp [World.setCell]
              clear hown1 hrowp1 hcx1 hg3 o3 hb2 hown2 hb1 hel hz
              go_wp2_with fail
              unfold Nc.roundR at HRND
              generalize Nc.swapR R k p = R2 at HRND HSH hown3
              obtain ⟨prow, hprow⟩ : ∃ prow, prow = R2.getD k [] := ⟨_, rfl⟩
              rw [← hprow] at HRND
              obtain ⟨pk1, pk2, pk3⟩ := Nc.shape_at HSH.out h2
              rw [← hprow] at pk1 pk2 pk3
              have HPK := Lib.hid pk1
              have HPV := Lib.hid pk2
              have HPL := Lib.hid pk3
              clear hcell2 hfz2 hprow pk1 pk2 pk3
              go_loopw [10] (fun iv wi => ∃ i : Nat, i ≤ n ∧ iv = .int .i64 i ∧ OwnW 3 30 wi w.heap.size wi.heap.size (some ⟨g, 0, none⟩) n c1 (Nc.elimTo R2 k prow i) ∧ Below w.heap.size w wi) (fun iv _ => n - (intOf iv).toNat)
              case atStart => exact ⟨0, Nat.zero_le _, rfl, by rw [Nc.elimTo_zero]; exact hown3.more (Nat.le_refl _) hz3, hb3⟩
              case round =>
                clear hown3 hb3
                obtain ⟨i, hi, rfl, howi, hbi⟩ := hrel
                have hszi := hbi.size
                by_cases hil : i < n
                · obtain ⟨si1, si2, si3⟩ := Nc.shape_at HSH.out hil
                  obtain ⟨g4, Ai, ni, ci, yi, hg4, _, _, hyi, hcelli, hfzi, hrowi⟩ := howi.rowAt hil
                  obtain rfl : g = g4 := by injection hg4 with hg4; injection hg4
                  rw [Nc.elimTo_at si1, if_neg (Nat.lt_irrefl _)] at hyi
                  obtain rfl : R2.getD i [] = yi := by injection hyi
                  obtain rfl : q = ni := by have t := hrowi.len; simp only [List.length_map] at t; omega
                  obtain ⟨bi, oi, xi, rfl, hbi2, hxi, hcxi⟩ := hrowi.rd.int h1
                  have HXG := Lib.hid (show (R2.getD i []).getD k 0 = xi by rw [List.getD_eq_getElem?_getD, hxi]; rfl)
                  have hxb := Nc.ent_bd HSH.out hil h1
                  unfold Nc.ent at hxb
                  rw [HXG.out] at hxb
                  obtain ⟨y0, y1⟩ := hxb
                  have HSI := Lib.hid si1
                  have HVI := Lib.hid si2
                  have HLI := Lib.hid si3
                  clear hg4 hyi si1 si2 si3 hxi
                  by_cases hik : i = k
                  · have d0 : ((i : Int) != k) = false := by simp [hik]
                    have HSAME := Lib.hid (Nc.elimTo_same (k := k) (prow := prow) HSI.out (by unfold Nc.elimRow; rw [if_pos hik]))
                    clear hik
                    go_wp2_with fail
                    go_roundw
                    case rel => exact ⟨i + 1, by omega, by go_num, by rw [HSAME.out]; exact howi, hbi⟩
                    case measure => simp [intOf]; omega
                  · have d0 : ((i : Int) != k) = true := by simp; omega
                    by_cases hx0 : xi = 0
                    · have d1 : (xi != 0) = false := by simp [hx0]
                      have HSAME := Lib.hid (Nc.elimTo_same (k := k) (prow := prow) HSI.out (by unfold Nc.elimRow; rw [if_neg hik, if_pos (by rw [HXG.out]; exact hx0)]))
                      clear hik hx0
                      go_wp2_with fail
                      go_roundw
                      case rel => exact ⟨i + 1, by omega, by go_num, by rw [HSAME.out]; exact howi, hbi⟩
                      case measure => simp [intOf]; omega
                    · have d1 : (xi != 0) = true := by simpa using hx0
                      have HNEXT := Lib.hid (show (Nc.elimTo R2 k prow i).set i (Nc.addL (R2.getD i []) prow (1019 - xi)) = Nc.elimTo R2 k prow (i + 1) by
                        have t := Nc.elimTo_next (k := k) (prow := prow) HSI.out
                        unfold Nc.elimRow at t
                        rw [if_neg hik, if_neg (by rw [HXG.out]; exact hx0), HXG.out] at t
                        exact t)
                      obtain ⟨g5, Ak5, nk5, ck5, yk5, hg5, _, _, hyk5, hcellk5, _, hrowk5⟩ := howi.rowAt h2
                      obtain rfl : g = g5 := by injection hg5 with hg5; injection hg5
                      rw [Nc.elimTo_at HPK.out] at hyk5
                      obtain rfl : prow = yk5 := by
                        injection hyk5 with hyk5
                        rw [← hyk5]
                        split
                        · unfold Nc.elimRow; rw [if_pos rfl]
                        · rfl
                      have hnk5 : nk5 ≤ 40 := by have t := hrowk5.len; simp only [List.length_map, HPL.out] at t; omega
                      have HI := Lib.hid (show Rd wr wr.heap.size (some ⟨bi, oi, none⟩) q _ from hrowi.rd)
                      have HK := Lib.hid (show Rd wr wr.heap.size Ak5 nk5 _ from hrowk5.rd)
                      have HOWI := Lib.hid howi
                      have HBI := Lib.hid hbi
                      have i1 : (0 : Int) ≤ i := by omega
                      have i2 : (i : Int) < n := by omega
                      have k1 : (0 : Int) ≤ k := by omega
                      have k2 : (k : Int) < n := by omega
                      have k3 : (k : Int) < q := by omega
                      have v1 : IntKind.i64.wrap (1019 - xi) = 1019 - xi := IntWalk.i64_in _ (by omega)
                      have HCI := Lib.hid hcelli
                      have HFI := Lib.hid hfzi
                      clear hik hx0 hg5 hyk5 hrowk5 hrowi howi hbi
                      go_wp2_with fail
                      go_region_with ((go_at_call 112; refine (spec_AddScaled _ _ _ _ _ _ (1019 - xi) (R2.getD i []) prow _ (by exact HI.out) (by exact HK.out) (by omega) (by omega)).mono ?_; rintro e w5 ⟨A5, n5, c5, rfl, o5, hb5⟩; have hbw : Below wr.heap.size wr w5 := ⟨hb5.os, hb5.tape, hb5.output, hb5.size, hb5.block⟩; have hcell5 : w5.cell? ⟨g, i, none⟩ = some (.slice (some ⟨bi, oi, none⟩) q ci) := (hbw.cell (p := ⟨g, i, none⟩) (by simp only; omega)).trans HCI.out; have hfz5 : w5.frozen? ⟨g, i, none⟩ = false := (hbw.frozen (p := ⟨g, i, none⟩) (by simp only; omega)).trans HFI.out; have HBW := Lib.hid hbw; have HO5 := Lib.hid (show Own w5 wr.heap.size w5.heap.size 3 A5 n5 c5 _ from o5); clear hb5 hbw o5))
                      all_goals
                        have hs5 := HBW.out.size
                        have hset := (HOWI.out.below HBW.out (Nat.le_refl _)).setRow (j := i) (by decide) HO5.out hszi hs5
                        rw [HNEXT.out] at hset
                        have hb6 := (HBI.out.trans (HBW.out.mono hszi)).setCell (p := ⟨g, i, none⟩) hglo (.slice A5 n5 c5)
                        go_wp2_with fail
                        go_roundw
                        case rel => exact ⟨i + 1, by omega, by go_num, by simpa using hset, hb6⟩
                        case measure => simp [intOf]; omega
                · obtain rfl : n = i := by omega
                  go_wp2_with fail
                  go_roundw
                  case rel => exact ⟨k + 1, _, by omega, by omega, by go_num, by go_num, howi, HRND, hbi⟩
                  case measure => simp [intOf]; omega
          · exact (Nc.elim_pivot hel.out HF.out h2 h1 (fun i h3 h4 => hz.out i h3 (by omega))).elim
      · obtain rfl : k = n := by omega
        go_wp2_with fail
        go_ret
        exact ⟨A1, c1, by rw [Nat.min_eq_left hkq]; rfl, hb⟩
    · obtain rfl : k = q := by omega
      go_wp2_with fail
      go_ret
      exact ⟨A1, c1, by rw [Nat.min_eq_right hkn]; rfl, hb⟩

end Go.Proofs.Ytnobbojjhehdfaa
