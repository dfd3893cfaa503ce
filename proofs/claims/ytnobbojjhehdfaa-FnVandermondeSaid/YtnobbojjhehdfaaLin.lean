/- Contracts of the sums and multiples of vectors. Conditions: stated with each theorem. -/
import Derived.Test.YtnobbojjhehdfaaDot
import Derived.Test.YtnobbojjhehdfaaEnc
import Derived.Test.YtnobbojjhehdfaaMix
namespace Go.Proofs.Ytnobbojjhehdfaa
open Go.RowKit
set_option maxRecDepth 100000
attribute [local go_sem ↓] Go.wp_at_zero Go.wp_at_succ

def Nc.addR (xs ys : List Int) (k : Int) : List Int := List.zipWith (fun x y => (x + y * k) % 1019) xs ys
def Nc.addL (xs ys : List Int) (k : Int) : List Int := if Nc.pairB xs ys && Nc.elB k then Nc.addR xs ys k else []
def Nc.scaleL (zs : List Int) (k : Int) : List Int := if Nc.vecB zs && Nc.elB k then zs.map (fun x => x * k % 1019) else []
theorem Nc.addR_at {xs ys : List Int} {k : Int} {j : Nat} {x y : Int} (hx : xs[j]? = some x) (hy : ys[j]? = some y) : (Nc.addR xs ys k)[j]? = some ((x + y * k) % 1019) := by
  unfold Nc.addR; rw [List.getElem?_zipWith, hx, hy]
theorem Nc.addR_len (xs ys : List Int) (k : Int) : (Nc.addR xs ys k).length = min xs.length ys.length := by simp [Nc.addR]
theorem Nc.addR_el (xs ys : List Int) (k : Int) : ∀ x ∈ Nc.addR xs ys k, 0 ≤ x ∧ x ≤ 1018 := by
  intro z hz
  obtain ⟨j, hj, rfl⟩ := List.getElem_of_mem hz
  simp only [Nc.addR, List.getElem_zipWith]
  omega
theorem Nc.addR_zero (zs : List Int) (k : Int) : Nc.addR (List.replicate zs.length 0) zs k = zs.map (fun x => x * k % 1019) := by
  unfold Nc.addR
  apply List.ext_getElem?
  intro j
  rw [List.getElem?_zipWith, List.getElem?_map, List.getElem?_replicate]
  by_cases h : j < zs.length
  · rw [if_pos h, List.getElem?_eq_getElem h]; simp
  · rw [if_neg h, List.getElem?_eq_none (by omega)]; rfl
theorem Nc.addL_len (xs ys : List Int) (k : Int) : (Nc.addL xs ys k).length ≤ 40 := by
  unfold Nc.addL
  split
  · rename_i h
    simp only [Nc.pairB, Bool.and_eq_true] at h
    have := Nc.vecB_len h.1.1.1
    rw [Nc.addR_len]; omega
  · simp
theorem Nc.scaleL_len (zs : List Int) (k : Int) : (Nc.scaleL zs k).length ≤ 40 := by
  unfold Nc.scaleL
  split
  · rename_i h
    simp only [Bool.and_eq_true] at h
    have := Nc.vecB_len h.1
    simp; omega
  · simp
theorem rd_of_replicate (n : Nat) : List.replicate n (Value.int .i64 0) = (List.replicate n (0 : Int)).map (.int .i64) := by simp

set_option maxHeartbeats 1000000 in
theorem impl_addScaled (A : Option Addr) (n c : Nat) (A2 : Option Addr) (c2 : Nat) (k : Int) (xs ys : List Int) (lo hi : Nat) (w : World) (ha : Own w lo hi 3 A n c (xs.map (.int .i64))) (hb : Rd w lo A2 n (ys.map (.int .i64))) (hlo : lo ≤ w.heap.size)
    (ex : ∀ x ∈ xs, 0 ≤ x ∧ x ≤ 1018) (ey : ∀ y ∈ ys, 0 ≤ y ∧ y ≤ 1018) (k0 : 0 ≤ k) (k1 : k ≤ 1018) (hn : n ≤ 1048576) :
    Calls Try.prog 85 #[.slice A n c, .slice A2 n c2, .int .i64 k] w fun e w' => e = .returned (.slice A n c) ∧ Own w' lo hi 3 A n c ((Nc.addR xs ys k).map (.int .i64)) ∧ w.grownBy w' (A.map (·.block)) := by
  have HX := Lib.hid (show xs.length = n by have := ha.len; simpa using this)
  have HY := Lib.hid hb.ilen
  have HL := Lib.hid (show (Nc.addR xs ys k).length = xs.length by rw [Nc.addR_len, HX.out, HY.out]; omega)
  have EX := Lib.hid ex
  have EY := Lib.hid ey
  have HBLK := Lib.hid ha.blk
  clear ex ey
  go_enter Try.func85, Try.ntmps85
  go_wp2
  go_loopw [11] (fun i wr => ∃ j : Nat, j ≤ n ∧ i = .int .i64 j ∧ Own wr lo hi 3 A n c ((mix (Nc.addR xs ys k) xs j).map (.int .i64)) ∧ w.grownBy wr (A.map (·.block))) (fun i _ => n - (intOf i).toNat)
  case atStart => exact ⟨0, Nat.zero_le _, rfl, by rw [mix_zero]; exact ha, World.grownBy.refl _ _⟩
  case round =>
    obtain ⟨j, hj, rfl, hw, hg⟩ := hrel
    by_cases hlt : j < n
    · obtain ⟨g, rfl, hglo, hghi⟩ := hw.addr (by omega)
      have hb2 : Rd wr lo A2 n (ys.map (.int .i64)) := hb.keep fun p hp => World.cell?_of_block (hg.block p.block (by omega) (fun e => by have := HBLK.out p.block e.symm; omega))
      obtain ⟨b, o, y, rfl, hbB, hy, hcy⟩ := hb2.int hlt
      obtain ⟨x, hx⟩ : ∃ x, xs[j]? = some x := ⟨_, List.getElem?_eq_getElem (by rw [HX.out]; exact hlt)⟩
      obtain ⟨x0, x1⟩ := EX.out x (List.mem_of_getElem? hx)
      obtain ⟨p0, p1⟩ := mul_el ⟨k0, k1⟩ (EY.out y (List.mem_of_getElem? hy))
      have HS := Lib.hid (mix_next HL.out (Nc.addR_at (k := k) hx hy))
      have HV := Lib.hid (show (x + y * k) % 1019 = (x + k * y) % 1019 by rw [Int.mul_comm])
      have hcell := hw.1.cellAt j (by omega)
      rw [List.getElem?_map, mix_at HL.out hx] at hcell
      have hcell : wr.cell? ⟨g, j, none⟩ = some (.int .i64 x) := hcell
      have hfz := hw.1.frozenAt j
      have hst := hw.1.stored j (.int .i64 ((x + y * k) % 1019))
      rw [← List.map_set, HS.out, HV.out] at hst
      have HST := Lib.hid hst
      clear hx hy hst hb2
      go_wp2
      go_roundw
      case rel => exact ⟨j + 1, by omega, by go_num, ⟨HST.out.1, hw.2⟩, World.grownBy.trans hg HST.out.2⟩
      case measure => simp [intOf]; omega
    · obtain rfl : j = n := by omega
      go_wp2
      go_ret
      rw [mix_full HX.out (by rw [HL.out, HX.out])] at hw
      exact ⟨rfl, hw, hg⟩

set_option maxHeartbeats 1000000 in
theorem impl_ScaleVector (A : Option Addr) (n c : Nat) (k : Int) (zs : List Int) (w : World) (hr : Rd w w.heap.size A n (zs.map (.int .i64))) (hn : n ≤ 9223372036854775806) :
    Calls Try.prog 69 #[.slice A n c, .int .i64 k] w (Fresh 3 w ((Nc.scaleL zs k).map (.int .i64))) := by
  obtain ⟨i0, hi0, hz0, hz1, hz2⟩ := info_parts Try.info_int
  have HZ := Lib.hid hr.ilen
  cases vx : Nc.vecB zs
  · have HE := Lib.hid (show Nc.scaleL zs k = [] by simp [Nc.scaleL, vx])
    go_enter Try.func69, Try.ntmps69
    go_wp2_with fail
    refine (impl_IsValidVector _ _ _ zs _ hr hn).mono ?_
    rintro e w' ⟨rfl, rfl⟩
    rw [vx]
    go_wp2_with fail
    go_ret
    exact ⟨_, _, _, rfl, by rw [HE.out]; exact Own.of (World.ownsRow_nil _ _ _ _) (Nat.le_refl _), Below.refl _ _⟩
  · cases vk : Nc.elB k
    · have HE := Lib.hid (show Nc.scaleL zs k = [] by simp [Nc.scaleL, vk])
      go_enter Try.func69, Try.ntmps69
      go_wp2_with fail
      refine (impl_IsValidVector _ _ _ zs _ hr hn).mono ?_
      rintro e w' ⟨rfl, rfl⟩
      rw [vx]
      go_wp2_with fail
      refine (impl_IsElement _ _).mono ?_
      rintro e w' ⟨rfl, rfl⟩
      rw [vk]
      go_wp2_with fail
      go_ret
      exact ⟨_, _, _, rfl, by rw [HE.out]; exact Own.of (World.ownsRow_nil _ _ _ _) (Nat.le_refl _), Below.refl _ _⟩
    · have HE := Lib.hid (show Nc.scaleL zs k = Nc.addR (List.replicate n 0) zs k by rw [← HZ.out, Nc.addR_zero]; simp [Nc.scaleL, vx, vk])
      have hn40 : n ≤ 40 := by rw [← HZ.out]; exact Nc.vecB_len vx
      obtain ⟨k0, k1⟩ := Nc.inB_true vk
      have EX := Lib.hid (Nc.vecB_el vx)
      have VX := Lib.hid vx
      have VK := Lib.hid vk
      clear vx vk
      go_enter Try.func69, Try.ntmps69
      go_wp2_with fail
      refine (impl_IsValidVector _ _ _ zs _ hr hn).mono ?_
      rintro e w' ⟨rfl, rfl⟩
      rw [VX.out]
      go_wp2_with fail
      refine (impl_IsElement _ _).mono ?_
      rintro e w' ⟨rfl, rfl⟩
      rw [VK.out]
      go_wp2_with (first | (at_make; refine wpList_mk _ rfl _ _ _ rfl w.heap.size 3 i0 .i64 Try.underlying30 hi0 hz0 hz1 .i64 .i64 _ _ n rfl rfl rfl rfl (by rw [hz2]; omega) (by unfold maxLen; omega) (Nat.le_refl _) ?_; intro w1 hown1 hb1) | fail)
      have ho1 : Own w1 w.heap.size w1.heap.size 3 (some ⟨w.heap.size, 0, none⟩) n n ((List.replicate n (0 : Int)).map (.int .i64)) := by rw [← rd_of_replicate]; exact Own.of hown1 (Nat.le_refl _)
      refine (impl_addScaled _ _ _ _ _ k (List.replicate n 0) zs _ _ _ ho1 (hr.below hb1 (Nat.le_refl _)) hb1.size (by intro x hx; rw [List.eq_of_mem_replicate hx]; omega) EX.out k0 k1 (by omega)).mono ?_
      rintro e w2 ⟨rfl, ho2, hg2⟩
      have hs2 := hg2.size
      have hb2 := hb1.grown hg2 hb1.size (fun g hg => (ho1.blk g hg).1)
      go_wp2_with fail
      go_ret
      exact ⟨_, _, _, rfl, by rw [HE.out]; exact ho2.more (Nat.le_refl _) hs2, hb2⟩

set_option maxHeartbeats 1000000 in
theorem spec_ScaleVector (A : Option Addr) (n c : Nat) (k : Int) (zs : List Int) (w : World) (hr : Rd w w.heap.size A n (zs.map (.int .i64))) (hn : n ≤ 9223372036854775806) :
    Calls Try.prog 63 #[.slice A n c, .int .i64 k] w (Fresh 3 w ((Nc.scaleL zs k).map (.int .i64))) := by
  obtain ⟨i0, hi0, hz0, hz1, hz2⟩ := info_parts Try.info_int
  have HZ := Lib.hid hr.ilen
  have hr1 : Rd (w.alloc (.cells #[] 3)) (w.alloc (.cells #[] 3)).heap.size A n (zs.map (.int .i64)) := (hr.below ((Below.refl _ _).alloc (Nat.le_refl _) _) (Nat.le_refl _)).more (by simp)
  have HR1 := Lib.hid hr1
  clear hr1
  cases vx : Nc.vecB zs
  · have HE := Lib.hid (show Nc.scaleL zs k = [] by simp [Nc.scaleL, vx])
    go_enter Try.func63, Try.ntmps63
    go_wp2_with fail
    refine (spec_IsValidVector _ _ _ zs _ (by exact HR1.out) hn).mono ?_
    rintro e w' ⟨rfl, rfl⟩
    rw [vx]
    go_wp2_with fail
    go_ret
    exact ⟨_, _, _, rfl, by rw [HE.out]; exact Own.of (World.ownsRow_lit w #[] 0 (Nat.le_refl _) (by decide) rfl) (Nat.le_refl _), (Below.refl _ _).alloc (Nat.le_refl _) _⟩
  · cases vk : Nc.elB k
    · have HE := Lib.hid (show Nc.scaleL zs k = [] by simp [Nc.scaleL, vk])
      go_enter Try.func63, Try.ntmps63
      go_wp2_with fail
      refine (spec_IsValidVector _ _ _ zs _ (by exact HR1.out) hn).mono ?_
      rintro e w' ⟨rfl, rfl⟩
      rw [vx]
      go_wp2_with fail
      refine (spec_IsElement _ _).mono ?_
      rintro e w' ⟨rfl, rfl⟩
      rw [vk]
      go_wp2_with fail
      go_ret
      exact ⟨_, _, _, rfl, by rw [HE.out]; exact Own.of (World.ownsRow_lit w #[] 0 (Nat.le_refl _) (by decide) rfl) (Nat.le_refl _), (Below.refl _ _).alloc (Nat.le_refl _) _⟩
    · have HE := Lib.hid (show Nc.scaleL zs k = zs.map (fun x => x * k % 1019) by simp [Nc.scaleL, vx, vk])
      have hn40 : n ≤ 40 := by rw [← HZ.out]; exact Nc.vecB_len vx
      obtain ⟨k0, k1⟩ := Nc.inB_true vk
      have EX := Lib.hid (Nc.vecB_el vx)
      have VX := Lib.hid vx
      have VK := Lib.hid vk
      clear vx vk
      go_enter Try.func63, Try.ntmps63
      go_wp2_with fail
      refine (spec_IsValidVector _ _ _ zs _ (by exact HR1.out) hn).mono ?_
      rintro e w' ⟨rfl, rfl⟩
      rw [VX.out]
      go_wp2_with fail
      refine (spec_IsElement _ _).mono ?_
      rintro e w' ⟨rfl, rfl⟩
      rw [VK.out]
      go_wp2_with fail
      go_loopw [5, 6] (fun v i wr => ∃ (j : Nat) (A1 : Option Addr) (c1 : Nat), j ≤ n ∧ i = .int .i64 j ∧ v = .slice A1 j c1 ∧ wr.ownsRow w.heap.size 3 1 (.slice A1 j c1) j (((zs.map (fun x => x * k % 1019)).take j).map (.int .i64)) ∧ Below w.heap.size w wr) (fun _ i _ => n - (intOf i).toNat)
      case atStart => exact ⟨0, _, _, Nat.zero_le _, rfl, rfl, World.ownsRow_lit w #[] 0 (Nat.le_refl _) (by decide) rfl, (Below.refl _ _).alloc (Nat.le_refl _) _⟩
      case round =>
        obtain ⟨j, A1, c1, hj, rfl, rfl, hown, hb⟩ := hrel
        have hsz := hb.size
        by_cases hlt : j < n
        · obtain ⟨b, o, x, rfl, hbB, hx, hc⟩ := (hr.below hb (Nat.le_refl _)).int hlt
          obtain ⟨p0, p1⟩ := mul_el (EX.out x (List.mem_of_getElem? hx)) ⟨k0, k1⟩
          have HN := Lib.hid (take_next (show (zs.map (fun x => x * k % 1019))[j]? = some (x * k % 1019) by rw [List.getElem?_map, hx]; rfl))
          clear hx
          go_wp2_with (at_builtin; refine wpList_app1 _ rfl _ _ _ rfl w.heap.size 3 i0 _ 8 Try.underlying30 hi0 hz0 hz1 hz2 rfl A1 j c1 _ rfl hown (.int .i64 (x * k % 1019)) rfl _ rfl (by unfold maxLen; omega) (by omega) (by omega) ?_; intro A2 c2 w2 hown2 hb2)
          go_roundw
          case rel => exact ⟨j + 1, A2, c2, by omega, by go_num, rfl, by rw [HN.out, List.map_append]; exact hown2, hb.trans hb2⟩
          case measure => simp [intOf]; omega
        · obtain rfl : j = n := by omega
          go_wp2
          go_ret
          rw [List.take_of_length_le (by simp [HZ.out])] at hown
          exact ⟨_, _, _, rfl, by rw [HE.out]; exact Own.of hown (Nat.le_refl _), hb⟩

set_option maxHeartbeats 1000000 in
theorem impl_AddScaled (A : Option Addr) (n c : Nat) (A2 : Option Addr) (m c2 : Nat) (k : Int) (xs ys : List Int) (w : World) (hx : Rd w w.heap.size A n (xs.map (.int .i64))) (hy : Rd w w.heap.size A2 m (ys.map (.int .i64))) (hn : n ≤ 9223372036854775806) (hm : m ≤ 9223372036854775806) :
    Calls Try.prog 65 #[.slice A n c, .slice A2 m c2, .int .i64 k] w (Fresh 3 w ((Nc.addL xs ys k).map (.int .i64))) := by
  have HX := Lib.hid hx.ilen
  have HY := Lib.hid hy.ilen
  cases vx : Nc.vecB xs
  · have HE := Lib.hid (show Nc.addL xs ys k = [] by simp [Nc.addL, Nc.pairB, vx])
    go_enter Try.func65, Try.ntmps65
    go_wp2_with fail
    refine (impl_IsValidVector _ _ _ xs _ hx hn).mono ?_
    rintro e w' ⟨rfl, rfl⟩
    rw [vx]
    go_wp2_with fail
    go_ret
    exact ⟨_, _, _, rfl, by rw [HE.out]; exact Own.of (World.ownsRow_nil _ _ _ _) (Nat.le_refl _), Below.refl _ _⟩
  cases vy : Nc.vecB ys
  · have HE := Lib.hid (show Nc.addL xs ys k = [] by simp [Nc.addL, Nc.pairB, vy])
    go_enter Try.func65, Try.ntmps65
    go_wp2_with fail
    refine (impl_IsValidVector _ _ _ xs _ hx hn).mono ?_
    rintro e w' ⟨rfl, rfl⟩
    rw [vx]
    go_wp2_with fail
    refine (impl_IsValidVector _ _ _ ys _ hy hm).mono ?_
    rintro e w' ⟨rfl, rfl⟩
    rw [vy]
    go_wp2_with fail
    go_ret
    exact ⟨_, _, _, rfl, by rw [HE.out]; exact Own.of (World.ownsRow_nil _ _ _ _) (Nat.le_refl _), Below.refl _ _⟩
  by_cases hnm : n = m
  rotate_left
  · have HE := Lib.hid (show Nc.addL xs ys k = [] by unfold Nc.addL Nc.pairB; rw [vx, vy, HX.out, HY.out]; simp [hnm])
    have hq : ((n : Int) != m) = true := by simp; omega
    go_enter Try.func65, Try.ntmps65
    go_wp2_with fail
    refine (impl_IsValidVector _ _ _ xs _ hx hn).mono ?_
    rintro e w' ⟨rfl, rfl⟩
    rw [vx]
    go_wp2_with fail
    refine (impl_IsValidVector _ _ _ ys _ hy hm).mono ?_
    rintro e w' ⟨rfl, rfl⟩
    rw [vy]
    go_wp2_with fail
    go_ret
    exact ⟨_, _, _, rfl, by rw [HE.out]; exact Own.of (World.ownsRow_nil _ _ _ _) (Nat.le_refl _), Below.refl _ _⟩
  subst hnm
  have hq : ((n : Int) != n) = false := by simp
  cases vk : Nc.elB k
  · have HE := Lib.hid (show Nc.addL xs ys k = [] by simp [Nc.addL, vk])
    go_enter Try.func65, Try.ntmps65
    go_wp2_with fail
    refine (impl_IsValidVector _ _ _ xs _ hx hn).mono ?_
    rintro e w' ⟨rfl, rfl⟩
    rw [vx]
    go_wp2_with fail
    refine (impl_IsValidVector _ _ _ ys _ hy hm).mono ?_
    rintro e w' ⟨rfl, rfl⟩
    rw [vy]
    go_wp2_with fail
    refine (impl_IsElement _ _).mono ?_
    rintro e w' ⟨rfl, rfl⟩
    rw [vk]
    go_wp2_with fail
    go_ret
    exact ⟨_, _, _, rfl, by rw [HE.out]; exact Own.of (World.ownsRow_nil _ _ _ _) (Nat.le_refl _), Below.refl _ _⟩
  have HE := Lib.hid (show Nc.addL xs ys k = Nc.addR xs ys k by unfold Nc.addL Nc.pairB; rw [vx, vy, vk, HX.out, HY.out]; simp)
  have hn40 : n ≤ 40 := by rw [← HX.out]; exact Nc.vecB_len vx
  obtain ⟨k0, k1⟩ := Nc.inB_true vk
  have EX := Lib.hid (Nc.vecB_el vx)
  have EY := Lib.hid (Nc.vecB_el vy)
  have VX := Lib.hid vx
  have VY := Lib.hid vy
  have VK := Lib.hid vk
  clear vx vy vk
  go_enter Try.func65, Try.ntmps65
  go_wp2_with fail
  refine (impl_IsValidVector _ _ _ xs _ hx hn).mono ?_
  rintro e w' ⟨rfl, rfl⟩
  rw [VX.out]
  go_wp2_with fail
  refine (impl_IsValidVector _ _ _ ys _ hy hm).mono ?_
  rintro e w' ⟨rfl, rfl⟩
  rw [VY.out]
  go_wp2_with fail
  refine (impl_IsElement _ _).mono ?_
  rintro e w' ⟨rfl, rfl⟩
  rw [VK.out]
  go_wp2_with fail
  refine (slices_Clone_int _ _ _ xs _ hx (by omega)).mono ?_
  rintro e w1 ⟨A1, n1, c1, rfl, ho1, hb1⟩
  obtain rfl : n1 = n := by have := ho1.len; simp only [List.length_map, HX.out] at this; exact this.symm
  go_wp2_with fail
  refine (impl_addScaled _ _ _ _ _ k xs ys _ _ _ ho1 (hy.below hb1 (Nat.le_refl _)) hb1.size EX.out EY.out k0 k1 (by omega)).mono ?_
  rintro e w2 ⟨rfl, ho2, hg2⟩
  have hs2 := hg2.size
  have hb2 := hb1.grown hg2 hb1.size (fun g hg => (ho1.blk g hg).1)
  go_wp2_with fail
  go_ret
  exact ⟨_, _, _, rfl, by rw [HE.out]; exact ho2.more (Nat.le_refl _) hs2, hb2⟩

set_option maxHeartbeats 2000000 in
theorem spec_AddScaled (A : Option Addr) (n c : Nat) (A2 : Option Addr) (m c2 : Nat) (k : Int) (xs ys : List Int) (w : World) (hx : Rd w w.heap.size A n (xs.map (.int .i64))) (hy : Rd w w.heap.size A2 m (ys.map (.int .i64))) (hn : n ≤ 9223372036854775806) (hm : m ≤ 9223372036854775806) :
    Calls Try.prog 112 #[.slice A n c, .slice A2 m c2, .int .i64 k] w (Fresh 3 w ((Nc.addL xs ys k).map (.int .i64))) := by
  obtain ⟨i0, hi0, hz0, hz1, hz2⟩ := info_parts Try.info_int
  have HX := Lib.hid hx.ilen
  have HY := Lib.hid hy.ilen
  have HX1 := Lib.hid (show Rd (w.alloc (.cells #[] 3)) (w.alloc (.cells #[] 3)).heap.size A n (xs.map (.int .i64)) from (hx.below ((Below.refl _ _).alloc (Nat.le_refl _) _) (Nat.le_refl _)).more (by simp))
  have HY1 := Lib.hid (show Rd (w.alloc (.cells #[] 3)) (w.alloc (.cells #[] 3)).heap.size A2 m (ys.map (.int .i64)) from (hy.below ((Below.refl _ _).alloc (Nat.le_refl _) _) (Nat.le_refl _)).more (by simp))
  cases hp : Nc.pairB xs ys
  · have HE := Lib.hid (show Nc.addL xs ys k = [] by simp [Nc.addL, hp])
    go_enter Try.func112, Try.ntmps112
    go_wp2_with fail
    refine (spec_l5Pair _ _ _ _ _ _ xs ys _ (by exact HX1.out) (by exact HY1.out) hn hm).mono ?_
    rintro e w' ⟨rfl, rfl⟩
    rw [hp]
    go_wp2_with fail
    go_ret
    exact ⟨_, _, _, rfl, by rw [HE.out]; exact Own.of (World.ownsRow_lit w #[] 0 (Nat.le_refl _) (by decide) rfl) (Nat.le_refl _), (Below.refl _ _).alloc (Nat.le_refl _) _⟩
  cases vk : Nc.elB k
  · have HE := Lib.hid (show Nc.addL xs ys k = [] by simp [Nc.addL, vk])
    go_enter Try.func112, Try.ntmps112
    go_wp2_with fail
    refine (spec_l5Pair _ _ _ _ _ _ xs ys _ (by exact HX1.out) (by exact HY1.out) hn hm).mono ?_
    rintro e w' ⟨rfl, rfl⟩
    rw [hp]
    go_wp2_with fail
    refine (spec_IsElement _ _).mono ?_
    rintro e w' ⟨rfl, rfl⟩
    rw [vk]
    go_wp2_with fail
    go_ret
    exact ⟨_, _, _, rfl, by rw [HE.out]; exact Own.of (World.ownsRow_lit w #[] 0 (Nat.le_refl _) (by decide) rfl) (Nat.le_refl _), (Below.refl _ _).alloc (Nat.le_refl _) _⟩
  have HE := Lib.hid (show Nc.addL xs ys k = Nc.addR xs ys k by simp [Nc.addL, hp, vk])
  have hp' := hp
  simp only [Nc.pairB, Bool.and_eq_true, decide_eq_true_eq] at hp'
  obtain ⟨⟨vx, vy⟩, hl⟩ := hp'
  have hnm : n = m := by rw [← HX.out, ← HY.out, hl]
  have hn40 : n ≤ 40 := by rw [← HX.out]; exact Nc.vecB_len vx
  obtain ⟨k0, k1⟩ := Nc.inB_true vk
  have EX := Lib.hid (Nc.vecB_el vx)
  have EY := Lib.hid (Nc.vecB_el vy)
  have HP := Lib.hid hp
  have VK := Lib.hid vk
  subst hnm
  clear vx vy hl hp vk
  go_enter Try.func112, Try.ntmps112
  go_wp2_with fail
  refine (spec_l5Pair _ _ _ _ _ _ xs ys _ (by exact HX1.out) (by exact HY1.out) hn hm).mono ?_
  rintro e w' ⟨rfl, rfl⟩
  rw [HP.out]
  go_wp2_with fail
  refine (spec_IsElement _ _).mono ?_
  rintro e w' ⟨rfl, rfl⟩
  rw [VK.out]
  go_wp2_with fail
  go_loopw [7, 8] (fun v i wr => ∃ (j : Nat) (A1 : Option Addr) (c1 : Nat), j ≤ n ∧ i = .int .i64 j ∧ v = .slice A1 j c1 ∧ wr.ownsRow w.heap.size 3 1 (.slice A1 j c1) j (((Nc.addR xs ys k).take j).map (.int .i64)) ∧ Below w.heap.size w wr) (fun _ i _ => n - (intOf i).toNat)
  case atStart => exact ⟨0, _, _, Nat.zero_le _, rfl, rfl, World.ownsRow_lit w #[] 0 (Nat.le_refl _) (by decide) rfl, (Below.refl _ _).alloc (Nat.le_refl _) _⟩
  case round =>
    obtain ⟨j, A1, c1, hj, rfl, rfl, hown, hb⟩ := hrel
    have hsz := hb.size
    by_cases hlt : j < n
    · obtain ⟨b, o, x, rfl, hbB, hx1, hcx⟩ := (hx.below hb (Nat.le_refl _)).int hlt
      obtain ⟨b2, o2, y, rfl, hbB2, hy1, hcy⟩ := (hy.below hb (Nat.le_refl _)).int hlt
      obtain ⟨x0, x1⟩ := EX.out x (List.mem_of_getElem? hx1)
      obtain ⟨p0, p1⟩ := mul_el (EY.out y (List.mem_of_getElem? hy1)) ⟨k0, k1⟩
      have HN := Lib.hid (take_next (Nc.addR_at (k := k) hx1 hy1))
      have j0 : (0 : Int) ≤ j := by omega
      have j1 : (j : Int) < n := by omega
      have hw1 : IntKind.i64.wrap (y * k) = y * k := IntWalk.i64_in _ (by omega)
      have hw2 : IntKind.i64.wrap (x + y * k) = x + y * k := IntWalk.i64_in _ (by omega)
      have hw3 : (x + y * k).tmod 1019 = (x + y * k) % 1019 := Int.tmod_eq_emod_of_nonneg (by omega)
      have HO := Lib.hid hown
      have HB := Lib.hid hb
      clear hx1 hy1 hown hb
      go_wp2_with fail
      go_region_law (first | (refine step_app1d wr (by rfl) _ _ _ (by rfl) w.heap.size 3 i0 _ 8 Try.underlying30 hi0 hz0 hz1 hz2 rfl A1 j c1 _ (by rfl) HO.out (.int .i64 ((x + y * k) % 1019)) (by rfl) _ (by rfl) (by unfold maxLen; omega) (by omega) hsz ?_; intro A3 c3 w3 hown3 hb3))
      all_goals
        clear hw1 hw2 hw3
        go_wp2
        go_roundw
        case rel => exact ⟨j + 1, A3, c3, by omega, by go_num, rfl, by rw [HN.out, List.map_append]; exact hown3, HB.out.trans hb3⟩
        case measure => simp [intOf]; omega
    · obtain rfl : j = n := by omega
      go_wp2
      go_ret
      rw [List.take_of_length_le (by rw [Nc.addR_len, HX.out]; omega)] at hown
      exact ⟨_, _, _, rfl, by rw [HE.out]; exact Own.of hown (Nat.le_refl _), hb⟩

theorem impl_AddVectors (A : Option Addr) (n c : Nat) (A2 : Option Addr) (m c2 : Nat) (xs ys : List Int) (w : World) (hx : Rd w w.heap.size A n (xs.map (.int .i64))) (hy : Rd w w.heap.size A2 m (ys.map (.int .i64))) (hn : n ≤ 9223372036854775806) (hm : m ≤ 9223372036854775806) :
    Calls Try.prog 68 #[.slice A n c, .slice A2 m c2] w (Fresh 3 w ((Nc.addL xs ys 1).map (.int .i64))) := by
  go_enter Try.func68, Try.ntmps68
  go_wp2_with fail
  refine (impl_AddScaled _ _ _ _ _ _ 1 xs ys _ hx hy hn hm).mono ?_
  rintro e w1 ⟨A1, n1, c1, rfl, ho1, hb1⟩
  go_wp2_with fail
  go_ret
  exact ⟨_, _, _, rfl, ho1, hb1⟩

theorem spec_AddVectors (A : Option Addr) (n c : Nat) (A2 : Option Addr) (m c2 : Nat) (xs ys : List Int) (w : World) (hx : Rd w w.heap.size A n (xs.map (.int .i64))) (hy : Rd w w.heap.size A2 m (ys.map (.int .i64))) (hn : n ≤ 9223372036854775806) (hm : m ≤ 9223372036854775806) :
    Calls Try.prog 62 #[.slice A n c, .slice A2 m c2] w (Fresh 3 w ((Nc.addL xs ys 1).map (.int .i64))) := by
  go_enter Try.func62, Try.ntmps62
  go_wp2_with fail
  refine (spec_AddScaled _ _ _ _ _ _ 1 xs ys _ hx hy hn hm).mono ?_
  rintro e w1 ⟨A1, n1, c1, rfl, ho1, hb1⟩
  go_wp2_with fail
  go_ret
  exact ⟨_, _, _, rfl, ho1, hb1⟩

end Go.Proofs.Ytnobbojjhehdfaa
