/- Contracts of encryption and decryption. Conditions: stated with each theorem. -/
import Derived.Test.YtgnngecfkocjhaaKey
import Derived.Test.YtgnngecfkocjhaaEnc
import Derived.RegionTactic
import Derived.Deep.RegionWith
import Derived.Deep.RegionHeld3
import Derived.Deep.RegionLaw
import Derived.Deep.DrawnRows
namespace Go.Proofs.Ytgnngecfkocjhaa
open Go.RowKit
attribute [local go_sem ↓] Go.wp_at_zero Go.wp_at_succ

def Nc.encAt (key : Int) (i : Nat) (x : Int) : Int := (x + Nc.keyed key [(i : Int)]) % 256
def Nc.decAt (key : Int) (i : Nat) (x : Int) : Int := (x - Nc.keyed key [(i : Int)]) % 256
def Nc.encB (key : Int) (zs : List Int) : List Int := zs.mapIdx (Nc.encAt key)
def Nc.decB (key : Int) (zs : List Int) : List Int := zs.mapIdx (Nc.decAt key)
/-- The first k places of ys, the others of zs. -/
def mix (ys zs : List Int) (k : Nat) : List Int := ys.take k ++ zs.drop k
theorem mix_zero (ys zs : List Int) : mix ys zs 0 = zs := by simp [mix]
theorem mix_full {ys zs : List Int} {n : Nat} (h : zs.length = n) (hy : ys.length = n) : mix ys zs n = ys := by
  unfold mix; rw [List.take_of_length_le (by omega), List.drop_of_length_le (by omega), List.append_nil]
theorem mix_at {ys zs : List Int} {k : Nat} {x : Int} (hl : ys.length = zs.length) (hx : zs[k]? = some x) : (mix ys zs k)[k]? = some x := by
  have hk := (List.getElem?_eq_some_iff.1 hx).1
  have : (ys.take k).length = k := by simp; omega
  unfold mix
  rw [List.getElem?_append_right (by omega), this, Nat.sub_self, List.getElem?_drop, Nat.add_zero, hx]
theorem mix_next {ys zs : List Int} {k : Nat} {y : Int} (hl : ys.length = zs.length) (hy : ys[k]? = some y) : (mix ys zs k).set k y = mix ys zs (k + 1) := by
  have hk := (List.getElem?_eq_some_iff.1 hy).1
  have : (ys.take k).length = k := by simp; omega
  unfold mix
  rw [List.set_append, if_neg (by omega), this, Nat.sub_self, List.drop_eq_getElem_cons (by omega), List.set_cons_zero, take_next hy]
  simp
theorem rd_new1 (w : World) (t : TypeId) (x : Int) : Rd (w.alloc (.cells #[.int .i64 x] t)) (w.heap.size + 1) (some ⟨w.heap.size, 0, none⟩) 1 ([x].map (.int .i64)) := by
  refine ⟨rfl, fun _ => ⟨w.heap.size, 0, rfl, by omega, fun j u hu => ?_⟩⟩
  match j, hu with
  | 0, hu => simp at hu; subst hu; simp
/-- 'append(out, x)' at a step of a region that draws its order. -/
theorem step_app1 {P : Program} {ops : Array Oper} {o : Oper} {a : Act} {K : Act → World → Prop} {Q : Exit → Act → World → Prop} {E : Prop} (w : World) (hgd : o.guard = none) (s x : Operand) (t : TypeId)
    (ho : o.op = .call { callee := .builtin .append, args := #[s, x], argTypes := #[t, t] })
    (base : Nat) (e : TypeId) (i : TypeInfo) (z : Value) (bytes : Nat) (ht : P.underlying t = some (.slice e)) (hi : P.info? e = some i) (hz : i.zero = some z)
    (hsize : i.size = 1) (hby : i.bytes = bytes) (hzs : z.cells.size = 1)
    (A : Option Addr) (n c : Nat) (xs : List Value) (hs : a.eval s = .slice A n c) (hown : w.ownsRow base e 1 (.slice A n c) n xs)
    (u : Value) (hu : u.oneCell' = true) (et : TypeId) (hx : a.eval x = .slice (some ⟨w.heap.size, 0, none⟩) 1 1)
    (h63 : n + 1 ≤ maxLen) (hbytes : (n + 1) * bytes ≤ 140737488355328) (hbase : base ≤ w.heap.size)
    (h : ∀ A' c' w', w'.ownsRow base e 1 (.slice A' (n + 1) c') (n + 1) (xs ++ [u]) → Below base w w' → K (a.put o.dst (.slice A' (n + 1) c')) w') :
    if Region.wanted o (yielded ops a.tmps) = true then Oper.wp P o a (w.alloc (.cells #[u] et)) K Q else E := by
  have hw : Region.wanted o (yielded ops a.tmps) = true := by simp [Region.wanted, hgd]
  rw [if_pos hw]
  obtain ⟨v', w', hr, h2, h3, _, _⟩ := run_append_own_at (P := P) (w.alloc (.cells #[u] et)) base t o.type e i z 1 bytes ht hi hz hsize hby hzs (by decide) (.slice A n c) n xs (hown.alloc _)
    ⟨w.heap.size, 0, none⟩ 1 1 [u] rfl (fun j v hv => by
      match j, hv with
      | 0, hv => simp at hv; subst hv; simp [Addr.add]) (fun v hv => by simp at hv; subst hv; exact hu) h63 hbytes (by simp; omega)
  obtain ⟨A', c', rfl⟩ := owns_form h2
  have hb : Below base w w' := ((Below.refl base w).alloc hbase (.cells #[u] et)).grown h3 (by simp; omega) (fun k hk => (hown.lt k hk).1)
  unfold Oper.wp execOp
  simp only [ho, resolve, invoke, builtin, Sem.run_bind, Sem.run_pure, Result.andThen_ok, List.map_toArray, List.map_cons, List.map_nil, hs, hx, hr]
  exact h A' c' w' h2 hb
theorem encV {x h : Int} (x0 : 0 ≤ x) (x1 : x ≤ 255) (q0 : 0 ≤ h) : IntKind.u8.wrap ((IntKind.i64.wrap (IntKind.i64.wrap x + h.tmod 256)).tmod 256) = (x + h) % 256 := by
  rw [Int.tmod_eq_emod_of_nonneg q0, IntWalk.i64_in x (by omega), IntWalk.i64_in (x + h % 256) (by omega), Int.tmod_eq_emod_of_nonneg (by omega), IntKind.wrap_u8]; omega
theorem decV {x h : Int} (x0 : 0 ≤ x) (x1 : x ≤ 255) (q0 : 0 ≤ h) : IntKind.u8.wrap (Nc.modI (IntKind.i64.wrap (IntKind.i64.wrap x - h.tmod 256)) 256) = (x - h) % 256 := by
  rw [Int.tmod_eq_emod_of_nonneg q0, IntWalk.i64_in x (by omega), IntWalk.i64_in (x - h % 256) (by omega), IntKind.wrap_u8]
  simp only [Nc.modI, show Nc.inB 256 1 1000000000000 = true from by decide, if_true]; omega
theorem keyed_wrap (key : Int) (i : Int) : IntKind.u8.wrap (Nc.keyed key [i]) = Nc.keyed key [i] % 256 := IntKind.wrap_u8 _

set_option maxHeartbeats 2000000 in
theorem impl_Encrypt (key : Int) (A : Option Addr) (n c : Nat) (zs : List Int) (w : World) (hr : Rd w w.heap.size A n (zs.map (.int .u8))) (hz : ∀ x ∈ zs, 0 ≤ x ∧ x ≤ 255) (hn : n ≤ 1048576) :
    Calls Try.prog 46 #[.int .i64 key, .slice A n c] w (Fresh 5 w ((Nc.encB key zs).map (.int .u8))) := by
  have HZ := Lib.hid hr.ilen
  have HB := Lib.hid hz
  clear hz
  have HY := Lib.hid (show (Nc.encB key zs).length = zs.length by simp [Nc.encB])
  go_enter Try.func46, Try.ntmps46
  go_wp2_with fail
  refine (slices_Clone_byte _ _ _ zs _ hr (by omega)).mono ?_
  rintro e w1 ⟨A1, n1, c1, rfl, ho1, hb1⟩
  have hn1 : n1 ≤ 1048576 := by have := ho1.len; simp only [List.length_map, HZ.out] at this; omega
  have HN1 := Lib.hid (show zs.length = n1 by have := ho1.len; simpa using this)
  go_wp2_with fail
  go_loopw [11] (fun i wr => ∃ k : Nat, k ≤ n1 ∧ i = .int .i64 k ∧ Own wr w.heap.size wr.heap.size 5 A1 n1 c1 ((mix (Nc.encB key zs) zs k).map (.int .u8)) ∧ Below w.heap.size w wr) (fun i _ => n1 - (intOf i).toNat)
  case atStart => exact ⟨0, Nat.zero_le _, rfl, by rw [mix_zero]; exact ho1, hb1⟩
  case round =>
    obtain ⟨k, hk, rfl, hown, hb⟩ := hrel
    have hsz := hb.size
    by_cases hlt : k < n1
    · obtain ⟨g, rfl, hglo, hghi⟩ := hown.addr (by omega)
      obtain ⟨x, hx⟩ : ∃ x, zs[k]? = some x := ⟨_, List.getElem?_eq_getElem (by rw [HN1.out]; exact hlt)⟩
      obtain ⟨x0, x1⟩ := HB.out x (List.mem_of_getElem? hx)
      obtain ⟨q0, q1⟩ := Nc.keyed_bd key [(k : Int)]
      have hy : (Nc.encB key zs)[k]? = some (Nc.encAt key k x) := by simp [Nc.encB, hx]
      have HV := Lib.hid (show Nc.encAt key k x = (x + Nc.keyed key [(k : Int)] % 256) % 256 by unfold Nc.encAt; omega)
      have HS := Lib.hid (mix_next HY.out hy)
      have hcell := hown.1.cellAt k (by omega)
      rw [List.getElem?_map, mix_at HY.out hx] at hcell
      have hcell : wr.cell? ⟨g, k, none⟩ = some (.int .u8 x) := hcell
      have hfz := hown.1.frozenAt k
      have k0 : (0 : Int) ≤ k := by omega
      have k1 : (k : Int) < n1 := by omega
      have HO := Lib.hid hown
      have HBB := Lib.hid hb
      clear hx hy hown hb
      obtain ⟨h, hh⟩ : ∃ h, h = Nc.keyed key [(k : Int)] := ⟨_, rfl⟩
      rw [← hh] at HV q0 q1
      have HH := Lib.hid hh
      clear hh
      go_wp2_with fail
      go_region_with ((go_at_call 35; refine (impl_KeyedHash _ _ 1 1 [(k : Int)] _ (by exact (rd_new1 wr 3 k).more (by simp)) (by omega) (by omega) (by omega)).mono ?_; rintro e w2 ⟨rfl, hb2⟩; have hbw : Below wr.heap.size wr w2 := ((Below.refl _ _).alloc (Nat.le_refl _) (.cells #[.int .i64 k] 3)).drew.trans (hb2.mono (by simp)); have hcell2 : w2.cell? ⟨g, k, none⟩ = some (.int .u8 x) := (hbw.cell (p := ⟨g, k, none⟩) hghi).trans hcell; have hfz2 : w2.frozen? ⟨g, k, none⟩ = false := (hbw.frozen (p := ⟨g, k, none⟩) hghi).trans hfz; have HW := Lib.hid hbw; clear hb2 hbw; rw [← HH.out]))
      all_goals
        go_wp2
        go_roundw
        case rel =>
          have hst := ((HO.out.below HW.out (Nat.le_refl _)).1.stored k (.int .u8 (Nc.encAt key k x))).1
          rw [← List.map_set, HS.out, HV.out] at hst
          exact ⟨k + 1, by omega, by go_num, Own.of hst (Nat.le_refl _), (HBB.out.trans (HW.out.mono hsz)).setCell hglo _⟩
        case measure => simp [intOf]; omega
    · obtain rfl : k = n1 := by omega
      go_wp2
      go_ret
      rw [mix_full HN1.out (by rw [HY.out, HN1.out])] at hown
      exact ⟨_, _, _, rfl, hown, hb⟩

set_option maxHeartbeats 2000000 in
theorem impl_Decrypt (key : Int) (A : Option Addr) (n c : Nat) (zs : List Int) (w : World) (hr : Rd w w.heap.size A n (zs.map (.int .u8))) (hz : ∀ x ∈ zs, 0 ≤ x ∧ x ≤ 255) (hn : n ≤ 1048576) :
    Calls Try.prog 44 #[.int .i64 key, .slice A n c] w (Fresh 5 w ((Nc.decB key zs).map (.int .u8))) := by
  have HZ := Lib.hid hr.ilen
  have HB := Lib.hid hz
  clear hz
  have HY := Lib.hid (show (Nc.decB key zs).length = zs.length by simp [Nc.decB])
  go_enter Try.func44, Try.ntmps44
  go_wp2_with fail
  refine (slices_Clone_byte _ _ _ zs _ hr (by omega)).mono ?_
  rintro e w1 ⟨A1, n1, c1, rfl, ho1, hb1⟩
  have hn1 : n1 ≤ 1048576 := by have := ho1.len; simp only [List.length_map, HZ.out] at this; omega
  have HN1 := Lib.hid (show zs.length = n1 by have := ho1.len; simpa using this)
  go_wp2_with fail
  go_loopw [11] (fun i wr => ∃ k : Nat, k ≤ n1 ∧ i = .int .i64 k ∧ Own wr w.heap.size wr.heap.size 5 A1 n1 c1 ((mix (Nc.decB key zs) zs k).map (.int .u8)) ∧ Below w.heap.size w wr) (fun i _ => n1 - (intOf i).toNat)
  case atStart => exact ⟨0, Nat.zero_le _, rfl, by rw [mix_zero]; exact ho1, hb1⟩
  case round =>
    obtain ⟨k, hk, rfl, hown, hb⟩ := hrel
    have hsz := hb.size
    by_cases hlt : k < n1
    · obtain ⟨g, rfl, hglo, hghi⟩ := hown.addr (by omega)
      obtain ⟨x, hx⟩ : ∃ x, zs[k]? = some x := ⟨_, List.getElem?_eq_getElem (by rw [HN1.out]; exact hlt)⟩
      obtain ⟨x0, x1⟩ := HB.out x (List.mem_of_getElem? hx)
      obtain ⟨q0, q1⟩ := Nc.keyed_bd key [(k : Int)]
      have hy : (Nc.decB key zs)[k]? = some (Nc.decAt key k x) := by simp [Nc.decB, hx]
      have HV := Lib.hid (show Nc.decAt key k x = (x - Nc.keyed key [(k : Int)] % 256) % 256 by unfold Nc.decAt; omega)
      have HS := Lib.hid (mix_next HY.out hy)
      have hcell := hown.1.cellAt k (by omega)
      rw [List.getElem?_map, mix_at HY.out hx] at hcell
      have hcell : wr.cell? ⟨g, k, none⟩ = some (.int .u8 x) := hcell
      have hfz := hown.1.frozenAt k
      have k0 : (0 : Int) ≤ k := by omega
      have k1 : (k : Int) < n1 := by omega
      have HO := Lib.hid hown
      have HBB := Lib.hid hb
      clear hx hy hown hb
      obtain ⟨h, hh⟩ : ∃ h, h = Nc.keyed key [(k : Int)] := ⟨_, rfl⟩
      rw [← hh] at HV q0 q1
      have HH := Lib.hid hh
      clear hh
      go_wp2_with fail
      go_region_with ((go_at_call 35; refine (impl_KeyedHash _ _ 1 1 [(k : Int)] _ (by exact (rd_new1 wr 3 k).more (by simp)) (by omega) (by omega) (by omega)).mono ?_; rintro e w2 ⟨rfl, hb2⟩; have hbw : Below wr.heap.size wr w2 := ((Below.refl _ _).alloc (Nat.le_refl _) (.cells #[.int .i64 k] 3)).drew.trans (hb2.mono (by simp)); have hcell2 : w2.cell? ⟨g, k, none⟩ = some (.int .u8 x) := (hbw.cell (p := ⟨g, k, none⟩) hghi).trans hcell; have hfz2 : w2.frozen? ⟨g, k, none⟩ = false := (hbw.frozen (p := ⟨g, k, none⟩) hghi).trans hfz; have HW := Lib.hid hbw; clear hb2 hbw; rw [← HH.out]))
      all_goals
        go_wp2
        go_roundw
        case rel =>
          have hst := ((HO.out.below HW.out (Nat.le_refl _)).1.stored k (.int .u8 (Nc.decAt key k x))).1
          rw [← List.map_set, HS.out, HV.out] at hst
          exact ⟨k + 1, by omega, by go_num, Own.of hst (Nat.le_refl _), (HBB.out.trans (HW.out.mono hsz)).setCell hglo _⟩
        case measure => simp [intOf]; omega
    · obtain rfl : k = n1 := by omega
      go_wp2
      go_ret
      rw [mix_full HN1.out (by rw [HY.out, HN1.out])] at hown
      exact ⟨_, _, _, rfl, hown, hb⟩

set_option maxHeartbeats 2000000 in
theorem spec_Encrypt (key : Int) (A : Option Addr) (n c : Nat) (zs : List Int) (w : World) (hr : Rd w w.heap.size A n (zs.map (.int .u8))) (hz : ∀ x ∈ zs, 0 ≤ x ∧ x ≤ 255) (hn : n ≤ 1048576) :
    Calls Try.prog 45 #[.int .i64 key, .slice A n c] w (Fresh 5 w ((Nc.encB key zs).map (.int .u8))) := by
  obtain ⟨i0, hi0, hz0, hz1, hz2⟩ := info_parts Try.info_byte
  have HZ := Lib.hid hr.ilen
  have HB := Lib.hid hz
  clear hz
  have HY := Lib.hid (show (Nc.encB key zs).length = zs.length by simp [Nc.encB])
  go_enter Try.func45, Try.ntmps45
  go_wp2
  go_loopw [5, 6] (fun v i wr => ∃ (k : Nat) (A1 : Option Addr) (c1 : Nat), k ≤ n ∧ i = .int .i64 k ∧ v = .slice A1 k c1 ∧ wr.ownsRow w.heap.size 5 1 (.slice A1 k c1) k (((Nc.encB key zs).take k).map (.int .u8)) ∧ Below w.heap.size w wr) (fun _ i _ => n - (intOf i).toNat)
  case atStart => exact ⟨0, _, _, Nat.zero_le _, rfl, rfl, World.ownsRow_lit w #[] 0 (Nat.le_refl _) (by decide) rfl, (Below.refl _ _).alloc (Nat.le_refl _) _⟩
  case round =>
    obtain ⟨k, A1, c1, hk, rfl, rfl, hown, hb⟩ := hrel
    have hsz := hb.size
    by_cases hlt : k < n
    · obtain ⟨b, o, x, rfl, hbB, hx, hcell⟩ := (hr.below hb (Nat.le_refl _)).int hlt
      obtain ⟨x0, x1⟩ := HB.out x (List.mem_of_getElem? hx)
      obtain ⟨q0, q1⟩ := Nc.keyed_bd key [(k : Int)]
      have hy : (Nc.encB key zs)[k]? = some (Nc.encAt key k x) := by simp [Nc.encB, hx]
      have HS := Lib.hid (take_next hy)
      have k0 : (0 : Int) ≤ k := by omega
      have k1 : (k : Int) < n := by omega
      have HO := Lib.hid hown
      have HBB := Lib.hid hb
      have hbw0 : b < wr.heap.size := by omega
      obtain ⟨h, hh⟩ : ∃ h, h = Nc.keyed key [(k : Int)] := ⟨_, rfl⟩
      rw [← hh] at q0 q1
      have HV := Lib.hid (show Nc.encAt key k x = IntKind.u8.wrap ((IntKind.i64.wrap (IntKind.i64.wrap x + h.tmod 256)).tmod 256) by unfold Nc.encAt; rw [← hh, encV x0 x1 q0])
      have HH := Lib.hid hh
      clear hx hy hown hb hh
      go_wp2_with fail
      go_region_law (first | (refine step_app1 w2 (by rfl) _ _ _ (by rfl) w.heap.size 5 i0 _ 1 Try.underlying22 hi0 hz0 hz1 hz2 rfl A1 k c1 _ (by rfl) HO2.out _ (by rfl) _ (by rfl) (by unfold maxLen; omega) (by omega) hs2 ?_; intro A3 c3 w3 hown3 hb3) | (go_simp; go_at_call 34; refine (spec_KeyedHash _ _ 1 1 [(k : Int)] _ (by exact (rd_new1 wr 3 k).more (by simp)) (by omega)).mono ?_; rintro e w2 ⟨rfl, hb2⟩; have hbw : Below wr.heap.size wr w2 := ((Below.refl _ _).alloc (Nat.le_refl _) (.cells #[.int .i64 k] 3)).drew.trans (hb2.mono (by simp)); have hcell2 : w2.cell? ⟨b, o + k, none⟩ = some (.int .u8 x) := (hbw.cell (p := ⟨b, o + k, none⟩) hbw0).trans hcell; have hs2 : w.heap.size ≤ w2.heap.size := Nat.le_trans hsz hbw.size; have HO2 := Lib.hid (((Own.of HO.out (Nat.le_refl _)).below hbw (Nat.le_refl _)).row); have HW := Lib.hid (HBB.out.trans (hbw.mono hsz)); clear hb2 hbw; rw [← HH.out]))
      all_goals
        go_wp2
        go_roundw
        case rel => exact ⟨k + 1, A3, c3, by omega, by go_num, rfl, by rw [HS.out, List.map_append, HV.out]; exact hown3, HW.out.trans hb3⟩
        case measure => simp [intOf]; omega
    · obtain rfl : k = n := by omega
      go_wp2
      go_ret
      rw [List.take_of_length_le (by rw [HY.out, HZ.out]; exact Nat.le_refl _)] at hown
      exact ⟨_, _, _, rfl, Own.of hown (Nat.le_refl _), hb⟩

set_option maxHeartbeats 2000000 in
theorem spec_Decrypt (key : Int) (A : Option Addr) (n c : Nat) (zs : List Int) (w : World) (hr : Rd w w.heap.size A n (zs.map (.int .u8))) (hz : ∀ x ∈ zs, 0 ≤ x ∧ x ≤ 255) (hn : n ≤ 1048576) :
    Calls Try.prog 43 #[.int .i64 key, .slice A n c] w (Fresh 5 w ((Nc.decB key zs).map (.int .u8))) := by
  obtain ⟨i0, hi0, hz0, hz1, hz2⟩ := info_parts Try.info_byte
  have HZ := Lib.hid hr.ilen
  have HB := Lib.hid hz
  clear hz
  have HY := Lib.hid (show (Nc.decB key zs).length = zs.length by simp [Nc.decB])
  go_enter Try.func43, Try.ntmps43
  go_wp2
  go_loopw [5, 6] (fun v i wr => ∃ (k : Nat) (A1 : Option Addr) (c1 : Nat), k ≤ n ∧ i = .int .i64 k ∧ v = .slice A1 k c1 ∧ wr.ownsRow w.heap.size 5 1 (.slice A1 k c1) k (((Nc.decB key zs).take k).map (.int .u8)) ∧ Below w.heap.size w wr) (fun _ i _ => n - (intOf i).toNat)
  case atStart => exact ⟨0, _, _, Nat.zero_le _, rfl, rfl, World.ownsRow_lit w #[] 0 (Nat.le_refl _) (by decide) rfl, (Below.refl _ _).alloc (Nat.le_refl _) _⟩
  case round =>
    obtain ⟨k, A1, c1, hk, rfl, rfl, hown, hb⟩ := hrel
    have hsz := hb.size
    by_cases hlt : k < n
    · obtain ⟨b, o, x, rfl, hbB, hx, hcell⟩ := (hr.below hb (Nat.le_refl _)).int hlt
      obtain ⟨x0, x1⟩ := HB.out x (List.mem_of_getElem? hx)
      obtain ⟨q0, q1⟩ := Nc.keyed_bd key [(k : Int)]
      have hy : (Nc.decB key zs)[k]? = some (Nc.decAt key k x) := by simp [Nc.decB, hx]
      have HS := Lib.hid (take_next hy)
      have k0 : (0 : Int) ≤ k := by omega
      have k1 : (k : Int) < n := by omega
      have HO := Lib.hid hown
      have HBB := Lib.hid hb
      have hbw0 : b < wr.heap.size := by omega
      obtain ⟨h, hh⟩ : ∃ h, h = Nc.keyed key [(k : Int)] := ⟨_, rfl⟩
      rw [← hh] at q0 q1
      have HV := Lib.hid (show Nc.decAt key k x = IntKind.u8.wrap (Nc.modI (IntKind.i64.wrap (IntKind.i64.wrap x - h.tmod 256)) 256) by unfold Nc.decAt; rw [← hh, decV x0 x1 q0])
      have HH := Lib.hid hh
      clear hx hy hown hb hh
      go_wp2_with fail
      go_region_law (first | (refine step_app1 w2 (by rfl) _ _ _ (by rfl) w.heap.size 5 i0 _ 1 Try.underlying22 hi0 hz0 hz1 hz2 rfl A1 k c1 _ (by rfl) HO2.out _ (by rfl) _ (by rfl) (by unfold maxLen; omega) (by omega) hs2 ?_; intro A3 c3 w3 hown3 hb3) | (go_simp; go_at_call 34; refine (spec_KeyedHash _ _ 1 1 [(k : Int)] _ (by exact (rd_new1 wr 3 k).more (by simp)) (by omega)).mono ?_; rintro e w2 ⟨rfl, hb2⟩; have hbw : Below wr.heap.size wr w2 := ((Below.refl _ _).alloc (Nat.le_refl _) (.cells #[.int .i64 k] 3)).drew.trans (hb2.mono (by simp)); have hcell2 : w2.cell? ⟨b, o + k, none⟩ = some (.int .u8 x) := (hbw.cell (p := ⟨b, o + k, none⟩) hbw0).trans hcell; have hs2 : w.heap.size ≤ w2.heap.size := Nat.le_trans hsz hbw.size; have HO2 := Lib.hid (((Own.of HO.out (Nat.le_refl _)).below hbw (Nat.le_refl _)).row); have HW := Lib.hid (HBB.out.trans (hbw.mono hsz)); clear hb2 hbw; rw [← HH.out]) | (go_simp; go_at_call 64; refine (spec_Mod _ _ _).mono ?_; rintro e w' ⟨rfl, rfl⟩))
      all_goals
        go_wp2
        go_roundw
        case rel => exact ⟨k + 1, A3, c3, by omega, by go_num, rfl, by rw [HS.out, List.map_append, HV.out]; exact hown3, HW.out.trans hb3⟩
        case measure => simp [intOf]; omega
    · obtain rfl : k = n := by omega
      go_wp2
      go_ret
      rw [List.take_of_length_le (by rw [HY.out, HZ.out]; exact Nat.le_refl _)] at hown
      exact ⟨_, _, _, rfl, Own.of hown (Nat.le_refl _), hb⟩

end Go.Proofs.Ytgnngecfkocjhaa
