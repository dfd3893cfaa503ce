/- Contracts of encryption and decryption. Conditions: stated with each theorem. -/
import Derived.Test.YtnobbojjhehdfaaKey
import Derived.Test.YtnobbojjhehdfaaEnc
import Derived.Test.YtnobbojjhehdfaaMix
import Derived.RegionTactic
import Derived.Deep.RegionWith
import Derived.Deep.RegionHeld3
import Derived.Deep.RegionLaw
import Derived.Deep.DrawnRows
namespace Go.Proofs.Ytnobbojjhehdfaa
open Go.RowKit
set_option maxRecDepth 100000
attribute [local go_sem ↓] Go.wp_at_zero Go.wp_at_succ

def Nc.encAt (key : Int) (i : Nat) (x : Int) : Int := (x + Nc.keyed key [(i : Int)]) % 256
def Nc.decAt (key : Int) (i : Nat) (x : Int) : Int := (x - Nc.keyed key [(i : Int)]) % 256
def Nc.encB (key : Int) (zs : List Int) : List Int := zs.mapIdx (Nc.encAt key)
def Nc.decB (key : Int) (zs : List Int) : List Int := zs.mapIdx (Nc.decAt key)
theorem encV {x h : Int} (x0 : 0 ≤ x) (x1 : x ≤ 255) (q0 : 0 ≤ h) : IntKind.u8.wrap ((IntKind.i64.wrap (IntKind.i64.wrap x + h.tmod 256)).tmod 256) = (x + h) % 256 := by
  rw [Int.tmod_eq_emod_of_nonneg q0, IntWalk.i64_in x (by omega), IntWalk.i64_in (x + h % 256) (by omega), Int.tmod_eq_emod_of_nonneg (by omega), IntKind.wrap_u8]; omega
theorem decV {x h : Int} (x0 : 0 ≤ x) (x1 : x ≤ 255) (q0 : 0 ≤ h) : IntKind.u8.wrap (Nc.modI (IntKind.i64.wrap (IntKind.i64.wrap x - h.tmod 256)) 256) = (x - h) % 256 := by
  rw [Int.tmod_eq_emod_of_nonneg q0, IntWalk.i64_in x (by omega), IntWalk.i64_in (x - h % 256) (by omega), IntKind.wrap_u8]
  simp only [Nc.modI, show Nc.inB 256 1 1000000000000 = true from by decide, if_true]; omega
theorem keyed_wrap (key : Int) (i : Int) : IntKind.u8.wrap (Nc.keyed key [i]) = Nc.keyed key [i] % 256 := IntKind.wrap_u8 _

set_option maxHeartbeats 2000000 in
theorem impl_Encrypt (key : Int) (A : Option Addr) (n c : Nat) (zs : List Int) (w : World) (hr : Rd w w.heap.size A n (zs.map (.int .u8))) (hz : ∀ x ∈ zs, 0 ≤ x ∧ x ≤ 255) (hn : n ≤ 1048576) :
    Calls Try.prog 40 #[.int .i64 key, .slice A n c] w (Fresh 5 w ((Nc.encB key zs).map (.int .u8))) := by
  have HZ := Lib.hid hr.ilen
  have HB := Lib.hid hz
  clear hz
  have HY := Lib.hid (show (Nc.encB key zs).length = zs.length by simp [Nc.encB])
  go_enter Try.func40, Try.ntmps40
  go_wp2_with fail
  refine (slices_Clone_byte _ _ _ zs _ hr (by omega)).mono ?_
  rintro e w1 ⟨A1, n1, c1, rfl, ho1, hb1⟩
  have hn1 : n1 ≤ 1048576 := by have := ho1.len; simp only [List.length_map, HZ.out] at this; omega
  have HN1 := Lib.hid (show zs.length = n1 by have := ho1.len; simpa using this)
  go_wp2_with fail
  go_loopw [11] (fun i wr => ∃ k : Nat, k ≤ n1 ∧ i = .int .i64 k ∧ Own wr w.heap.size wr.heap.size 5 A1 n1 c1 ((mix (Nc.encB key zs) zs k).map (.int .u8)) ∧ Below w.heap.size w wr) (fun i _ => n1 - (intOf i).toNat)
  case atStart => exact ⟨0, Nat.zero_le _, rfl, by rw [mix_zero]; exact ho1, hb1⟩
  case round =>
    obtain ⟨k, hk, rfl, hown, hb⟩ := hrel
    have hsz := hb.size
    by_cases hlt : k < n1
    · obtain ⟨g, rfl, hglo, hghi⟩ := hown.addr (by omega)
      obtain ⟨x, hx⟩ : ∃ x, zs[k]? = some x := ⟨_, List.getElem?_eq_getElem (by rw [HN1.out]; exact hlt)⟩
      obtain ⟨x0, x1⟩ := HB.out x (List.mem_of_getElem? hx)
      obtain ⟨q0, q1⟩ := Nc.keyed_bd key [(k : Int)]
      have hy : (Nc.encB key zs)[k]? = some (Nc.encAt key k x) := by simp [Nc.encB, hx]
      have HV := Lib.hid (show Nc.encAt key k x = (x + Nc.keyed key [(k : Int)] % 256) % 256 by unfold Nc.encAt; omega)
      have HS := Lib.hid (mix_next HY.out hy)
      have hcell := hown.1.cellAt k (by omega)
      rw [List.getElem?_map, mix_at HY.out hx] at hcell
      have hcell : wr.cell? ⟨g, k, none⟩ = some (.int .u8 x) := hcell
      have hfz := hown.1.frozenAt k
      have k0 : (0 : Int) ≤ k := by omega
      have k1 : (k : Int) < n1 := by omega
      have HO := Lib.hid hown
      have HBB := Lib.hid hb
      clear hx hy hown hb
      obtain ⟨h, hh⟩ : ∃ h, h = Nc.keyed key [(k : Int)] := ⟨_, rfl⟩
      rw [← hh] at HV q0 q1
      have HH := Lib.hid hh
      clear hh
      go_wp2_with fail
      go_region_with ((go_at_call 42; refine (impl_KeyedHash _ _ 1 1 [(k : Int)] _ (by exact (rd_new1 wr 3 k).more (by simp)) (by omega) (by omega) (by omega)).mono ?_; rintro e w2 ⟨rfl, hb2⟩; have hbw : Below wr.heap.size wr w2 := ((Below.refl _ _).alloc (Nat.le_refl _) (.cells #[.int .i64 k] 3)).drew.trans (hb2.mono (by simp)); have hcell2 : w2.cell? ⟨g, k, none⟩ = some (.int .u8 x) := (hbw.cell (p := ⟨g, k, none⟩) hghi).trans hcell; have hfz2 : w2.frozen? ⟨g, k, none⟩ = false := (hbw.frozen (p := ⟨g, k, none⟩) hghi).trans hfz; have HW := Lib.hid hbw; clear hb2 hbw; rw [← HH.out]))
      all_goals
        go_wp2
        go_roundw
        case rel =>
          have hst := ((HO.out.below HW.out (Nat.le_refl _)).1.stored k (.int .u8 (Nc.encAt key k x))).1
          rw [← List.map_set, HS.out, HV.out] at hst
          exact ⟨k + 1, by omega, by go_num, Own.of hst (Nat.le_refl _), (HBB.out.trans (HW.out.mono hsz)).setCell hglo _⟩
        case measure => simp [intOf]; omega
    · obtain rfl : k = n1 := by omega
      go_wp2
      go_ret
      rw [mix_full HN1.out (by rw [HY.out, HN1.out])] at hown
      exact ⟨_, _, _, rfl, hown, hb⟩

set_option maxHeartbeats 2000000 in
theorem impl_Decrypt (key : Int) (A : Option Addr) (n c : Nat) (zs : List Int) (w : World) (hr : Rd w w.heap.size A n (zs.map (.int .u8))) (hz : ∀ x ∈ zs, 0 ≤ x ∧ x ≤ 255) (hn : n ≤ 1048576) :
    Calls Try.prog 39 #[.int .i64 key, .slice A n c] w (Fresh 5 w ((Nc.decB key zs).map (.int .u8))) := by
  have HZ := Lib.hid hr.ilen
  have HB := Lib.hid hz
  clear hz
  have HY := Lib.hid (show (Nc.decB key zs).length = zs.length by simp [Nc.decB])
  go_enter Try.func39, Try.ntmps39
  go_wp2_with fail
  refine (slices_Clone_byte _ _ _ zs _ hr (by omega)).mono ?_
  rintro e w1 ⟨A1, n1, c1, rfl, ho1, hb1⟩
  have hn1 : n1 ≤ 1048576 := by have := ho1.len; simp only [List.length_map, HZ.out] at this; omega
  have HN1 := Lib.hid (show zs.length = n1 by have := ho1.len; simpa using this)
  go_wp2_with fail
  go_loopw [11] (fun i wr => ∃ k : Nat, k ≤ n1 ∧ i = .int .i64 k ∧ Own wr w.heap.size wr.heap.size 5 A1 n1 c1 ((mix (Nc.decB key zs) zs k).map (.int .u8)) ∧ Below w.heap.size w wr) (fun i _ => n1 - (intOf i).toNat)
  case atStart => exact ⟨0, Nat.zero_le _, rfl, by rw [mix_zero]; exact ho1, hb1⟩
  case round =>
    obtain ⟨k, hk, rfl, hown, hb⟩ := hrel
    have hsz := hb.size
    by_cases hlt : k < n1
    · obtain ⟨g, rfl, hglo, hghi⟩ := hown.addr (by omega)
      obtain ⟨x, hx⟩ : ∃ x, zs[k]? = some x := ⟨_, List.getElem?_eq_getElem (by rw [HN1.out]; exact hlt)⟩
      obtain ⟨x0, x1⟩ := HB.out x (List.mem_of_getElem? hx)
      obtain ⟨q0, q1⟩ := Nc.keyed_bd key [(k : Int)]
      have hy : (Nc.decB key zs)[k]? = some (Nc.decAt key k x) := by simp [Nc.decB, hx]
      have HV := Lib.hid (show Nc.decAt key k x = (x - Nc.keyed key [(k : Int)] % 256) % 256 by unfold Nc.decAt; omega)
      have HS := Lib.hid (mix_next HY.out hy)
      have hcell := hown.1.cellAt k (by omega)
      rw [List.getElem?_map, mix_at HY.out hx] at hcell
      have hcell : wr.cell? ⟨g, k, none⟩ = some (.int .u8 x) := hcell
      have hfz := hown.1.frozenAt k
      have k0 : (0 : Int) ≤ k := by omega
      have k1 : (k : Int) < n1 := by omega
      have HO := Lib.hid hown
      have HBB := Lib.hid hb
      clear hx hy hown hb
      obtain ⟨h, hh⟩ : ∃ h, h = Nc.keyed key [(k : Int)] := ⟨_, rfl⟩
      rw [← hh] at HV q0 q1
      have HH := Lib.hid hh
      clear hh
      go_wp2_with fail
      go_region_with ((go_at_call 42; refine (impl_KeyedHash _ _ 1 1 [(k : Int)] _ (by exact (rd_new1 wr 3 k).more (by simp)) (by omega) (by omega) (by omega)).mono ?_; rintro e w2 ⟨rfl, hb2⟩; have hbw : Below wr.heap.size wr w2 := ((Below.refl _ _).alloc (Nat.le_refl _) (.cells #[.int .i64 k] 3)).drew.trans (hb2.mono (by simp)); have hcell2 : w2.cell? ⟨g, k, none⟩ = some (.int .u8 x) := (hbw.cell (p := ⟨g, k, none⟩) hghi).trans hcell; have hfz2 : w2.frozen? ⟨g, k, none⟩ = false := (hbw.frozen (p := ⟨g, k, none⟩) hghi).trans hfz; have HW := Lib.hid hbw; clear hb2 hbw; rw [← HH.out]))
      all_goals
        go_wp2
        go_roundw
        case rel =>
          have hst := ((HO.out.below HW.out (Nat.le_refl _)).1.stored k (.int .u8 (Nc.decAt key k x))).1
          rw [← List.map_set, HS.out, HV.out] at hst
          exact ⟨k + 1, by omega, by go_num, Own.of hst (Nat.le_refl _), (HBB.out.trans (HW.out.mono hsz)).setCell hglo _⟩
        case measure => simp [intOf]; omega
    · obtain rfl : k = n1 := by omega
      go_wp2
      go_ret
      rw [mix_full HN1.out (by rw [HY.out, HN1.out])] at hown
      exact ⟨_, _, _, rfl, hown, hb⟩

end Go.Proofs.Ytnobbojjhehdfaa
