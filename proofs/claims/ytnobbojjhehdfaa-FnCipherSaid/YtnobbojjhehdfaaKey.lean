/- Contracts of the keyed hashes. Conditions: stated with each theorem. -/
import Derived.Test.YtnobbojjhehdfaaVec3
import Derived.Test.YtnobbojjhehdfaaMatMem
import Derived.Lib.AppendZerosOnto
import Derived.Lib.AppendZeros
import Derived.Lib.ConvBytes
import Derived.Test.YtnobbojjhehdfaaLawkit
namespace Go.Proofs.Ytnobbojjhehdfaa
open Go.RowKit
set_option maxRecDepth 100000

theorem one_ints' (k : IntKind) (zs : List Int) : ∀ u ∈ zs.map (Value.int k), u.oneCell' = true := by
  intro u hu; obtain ⟨x, _, rfl⟩ := List.mem_map.1 hu; rfl

set_option maxRecDepth 100000 in
set_option maxHeartbeats 1000000 in
theorem slices_Grow_int (n : Nat) (w : World) (h0 : 0 < n) (hn : n ≤ 1099511627776) :
    Calls Try.prog 122 #[.slice none 0 0, .int .i64 n] w fun e w' => ∃ A c, e = .returned (.slice A 0 c) ∧ w'.ownsRow w.heap.size 3 1 (.slice A 0 c) 0 [] ∧ Below w.heap.size w w' := by
  obtain ⟨i0, hi0, hz0, hz1, hz2⟩ := info_parts Try.info_int
  have hold : (Builtin.firstCells i0.size 0 (.slice none 0 0)).run Try.prog w.drew = .ok ([] : List Value).toArray w.drew := run_firstCells_none w.drew i0.size 0 0 0
  have hrz := fun ty => Lib.run_append_grow_zeros (P := Try.prog) w 30 3 ty 3 i0 (.int .i64 0) .i64 .i64 Try.underlying30 Try.underlying3 hi0 hz0 none 0 0 [] hold n h0 (by omega) (by omega) (by omega) (by rw [hz2]; omega) (growslice_fits (by omega) (by rw [hz2]; omega))
  have hG := grownCap_ge w (0 + n) 0 3
  have hGm := grownCap_le_maxLen w (0 + n) 0 3 (by unfold maxLen; omega)
  generalize grownCap w (0 + n) 0 3 = G at hrz hG hGm
  have hmade := World.ownsRow_made (base := w.heap.size) (e := 3) (size := 1) w.drew (([] : List Value).toArray ++ Builtin.zeroCells (Value.int .i64 0).cells n ++ Builtin.zeroCells (Value.int .i64 0).cells (G - (0 + n))) G (Nat.le_refl _) hGm
    (by simp only [Array.size_append, size_zeroCells, Value.cells]; simp; omega)
  simp only [Nat.zero_add] at hrz hG hmade
  unfold maxLen at hGm
  generalize (([] : List Value).toArray ++ Builtin.zeroCells (Value.int .i64 0).cells n ++ Builtin.zeroCells (Value.int .i64 0).cells (G - n)) = cs at hrz hmade
  have HM := Lib.hid hmade
  clear hold hmade
  go_enter Try.func122, Try.ntmps122
  go_wp2_with (at_builtin; refine Lib.wpList_append_run _ rfl _ _ _ _ rfl _ _ rfl rfl _ _ (hrz _) ?_)
  go_ret
  exact ⟨_, _, rfl, HM.out, (Below.refl _ _).drew.alloc (Nat.le_refl _) _⟩

set_option maxRecDepth 100000 in
set_option maxHeartbeats 1000000 in
theorem slices_Concat_int (A : Option Addr) (n c : Nat) (rows : List (List Int)) (w : World) (hr : RdM w w.heap.size A n rows) (h0 : 0 < rows.flatten.length) (hn : n ≤ 1099511627776) (hf : rows.flatten.length ≤ 1099511627776) :
    Calls Try.prog 100 #[.slice A n c] w (Fresh 3 w (rows.flatten.map (.int .i64))) := by
  obtain ⟨i0, hi0, hz0, hz1, hz2⟩ := info_parts Try.info_int
  have HL := Lib.hid hr.len
  obtain ⟨T, hT⟩ : ∃ T, T = rows.flatten.length := ⟨_, rfl⟩
  rw [← hT] at h0 hf
  have HT := Lib.hid hT
  clear hT
  have hle : Hid (∀ k, (rows.take k).flatten.length ≤ T) := Lib.hid (fun k => by
    rw [HT.out]
    have : rows.flatten = (rows.take k).flatten ++ (rows.drop k).flatten := by rw [← List.flatten_append, List.take_append_drop]
    rw [this]; simp)
  go_enter Try.func100, Try.ntmps100
  go_wp2
  go_loop [3, 11] (fun s i => ∃ (k m : Nat), k ≤ n ∧ i = .int .i64 k ∧ s = .int .i64 m ∧ m ≤ T ∧ Hid (m = (rows.take k).flatten.length)) (fun _ i => n - (intOf i).toNat)
  case atStart => exact ⟨0, 0, Nat.zero_le _, rfl, rfl, by omega, rfl⟩
  case round =>
    obtain ⟨k, m, hk, rfl, rfl, hmT, hm⟩ := hrel
    by_cases hlt : k < n
    · obtain ⟨b, o, Aj, nj, cj, xs, rfl, hbB, hx, hc, hnj, hcj, hrd⟩ := hr.at_ hlt
      have hnext : Hid (m + nj = (rows.take (k + 1)).flatten.length) := Lib.hid (by rw [flat_next hx, List.length_append, ← hm.out, hrd.ilen])
      have hmT2 : m + nj ≤ T := by rw [hnext.out]; exact hle.out _
      clear hx hrd
      go_wp2
      go_round
      case rel => exact ⟨k + 1, m + nj, by omega, by go_num, by go_num, hmT2, hnext⟩
      case measure => simp [intOf]; omega
    · obtain rfl : k = n := by omega
      have hmT3 : Hid (m = T) := Lib.hid (by rw [hm.out, HT.out, List.take_of_length_le (by rw [HL.out]; exact Nat.le_refl _)])
      have hm0 : 0 < m := by rw [hmT3.out]; exact h0
      go_wp2_with fail
      refine (slices_Grow_int m _ hm0 (by omega)).mono ?_
      rintro e w1 ⟨A1, c1, rfl, hown1, hb1⟩
      go_wp2_with fail
      go_loopw [6, 27] (fun v i wr => ∃ (j q : Nat) (A2 : Option Addr) (c2 : Nat), j ≤ k ∧ i = .int .i64 j ∧ v = .slice A2 q c2 ∧ q ≤ T ∧ wr.ownsRow w.heap.size 3 1 (.slice A2 q c2) q ((rows.take j).flatten.map (.int .i64)) ∧ Below w.heap.size w wr) (fun _ i _ => k - (intOf i).toNat)
      case atStart => exact ⟨0, 0, A1, c1, Nat.zero_le _, rfl, rfl, by omega, by simpa using hown1, hb1⟩
      case round =>
        obtain ⟨j, q, A2, c2, hj, rfl, rfl, hqT, hown, hb⟩ := hrel
        have hsz := hb.size
        by_cases hlt2 : j < k
        · obtain ⟨b, o, Aj, nj, cj, xs, rfl, hbB, hx, hc, hnj, hcj, hrd⟩ := (hr.below hb (Nat.le_refl _)).at_ hlt2
          have HN := Lib.hid (flat_next hx)
          have hq2 : q + nj ≤ T := by
            have h1 := hle.out (j + 1)
            have h2 := hown.1
            rw [HN.out, List.length_append, hrd.ilen] at h1
            simp only [List.length_map] at h2
            omega
          clear hx
          go_wp2_with (at_builtin; refine wpList_appAny _ rfl _ _ _ rfl w.heap.size 3 i0 _ 8 Try.underlying30 hi0 hz0 hz1 hz2 rfl A2 q c2 _ rfl hown w.heap.size Aj nj cj _ rfl hrd (one_ints' _ _) (by unfold maxLen; omega) (by omega) hsz ?_; intro A3 c3 w3 hown3 hb3)
          go_roundw
          case rel => exact ⟨j + 1, q + nj, A3, c3, by omega, by go_num, rfl, hq2, by rw [HN.out, List.map_append]; exact hown3, hb.trans hb3⟩
          case measure => simp [intOf]; omega
        · obtain rfl : j = k := by omega
          go_wp2
          go_ret
          rw [List.take_of_length_le (by rw [HL.out]; exact Nat.le_refl _)] at hown
          exact ⟨_, _, _, rfl, Own.of hown (Nat.le_refl _), hb⟩

/-- The keyed hash. -/
def Nc.keyed (key : Int) (zs : List Int) : Int := Nc.hashL ([key] ++ zs ++ [key])
theorem Nc.hashL_bd (zs : List Int) : 0 ≤ Nc.hashL zs ∧ Nc.hashL zs < 2147483647 := by
  unfold Nc.hashL
  have h : ∀ (l : List Int) (s : Int), 0 ≤ s → s < 2147483647 → 0 ≤ l.foldl Nc.hstep s ∧ l.foldl Nc.hstep s < 2147483647 := by
    intro l
    induction l with
    | nil => intro s h0 h1; exact ⟨h0, h1⟩
    | cons x l ih => intro s _ _; exact ih _ (Nc.hstep_bd s x).1 (Nc.hstep_bd s x).2
  exact h zs 11 (by omega) (by omega)
theorem Nc.keyed_bd (key : Int) (zs : List Int) : 0 ≤ Nc.keyed key zs ∧ Nc.keyed key zs < 2147483647 := Nc.hashL_bd _

/-- Three slices laid in one block, behind two blocks of one integer each. -/
theorem rdm_three (key : Int) (A : Option Addr) (n c : Nat) (zs : List Int) (w : World) (hr : Rd w w.heap.size A n (zs.map (.int .i64))) (hnc : n ≤ c) (hc : c ≤ 9223372036854775807) (t1 t2 t3 : TypeId) :
    RdM (((w.alloc (.cells #[.int .i64 key] t1)).alloc (.cells #[.int .i64 key] t2)).alloc (.cells #[.slice (some ⟨w.heap.size, 0, none⟩) 1 1, .slice A n c, .slice (some ⟨w.heap.size + 1, 0, none⟩) 1 1] t3)) (w.heap.size + 3)
      (some ⟨w.heap.size + 2, 0, none⟩) 3 [[key], zs, [key]] := by
  generalize hW : ((w.alloc (.cells #[.int .i64 key] t1)).alloc (.cells #[.int .i64 key] t2)).alloc (.cells #[.slice (some ⟨w.heap.size, 0, none⟩) 1 1, .slice A n c, .slice (some ⟨w.heap.size + 1, 0, none⟩) 1 1] t3) = W
  have hheap : W.heap = ((w.heap.push (.cells #[.int .i64 key] t1)).push (.cells #[.int .i64 key] t2)).push (.cells #[.slice (some ⟨w.heap.size, 0, none⟩) 1 1, .slice A n c, .slice (some ⟨w.heap.size + 1, 0, none⟩) 1 1] t3) := by rw [← hW]; rfl
  have b0 : W.heap[w.heap.size]? = some (.cells #[.int .i64 key] t1 (0, 0)) := by
    rw [hheap]; simp only [Array.getElem?_push, Array.size_push]; rw [if_neg (by omega), if_neg (by omega), if_pos trivial]
  have b1 : W.heap[w.heap.size + 1]? = some (.cells #[.int .i64 key] t2 (0, 0)) := by
    rw [hheap]; simp only [Array.getElem?_push, Array.size_push]; rw [if_neg (by omega), if_pos trivial]
  have b2 : W.heap[w.heap.size + 2]? = some (.cells #[.slice (some ⟨w.heap.size, 0, none⟩) 1 1, .slice A n c, .slice (some ⟨w.heap.size + 1, 0, none⟩) 1 1] t3 (0, 0)) := by
    rw [hheap]; simp only [Array.getElem?_push, Array.size_push]; rw [if_pos trivial]
  have hold : Below w.heap.size w W := by
    rw [← hW]
    exact (((Below.refl _ _).alloc (Nat.le_refl _) _).alloc (by simp) _).alloc (by simp; omega) _
  have one : ∀ g (t : TypeId), W.heap[g]? = some (.cells #[.int .i64 key] t (0, 0)) → g < w.heap.size + 3 → Rd W (w.heap.size + 3) (some ⟨g, 0, none⟩) 1 ([key].map (.int .i64)) := by
    intro g t hg hlt
    refine ⟨rfl, fun _ => ⟨g, 0, rfl, hlt, fun j u hu => ?_⟩⟩
    match j, hu with
    | 0, hu =>
      simp at hu
      rw [Nat.zero_add, cell_of_row W g 0 _ t (0, 0) hg, ← hu]
      rfl
  refine ⟨[.slice (some ⟨w.heap.size, 0, none⟩) 1 1, .slice A n c, .slice (some ⟨w.heap.size + 1, 0, none⟩) 1 1], ⟨rfl, fun _ => ⟨w.heap.size + 2, 0, rfl, by omega, fun j u hu => ?_⟩⟩, rfl, fun j v xs hv hx => ?_⟩
  · rw [Nat.zero_add, cell_of_row W _ j _ t3 (0, 0) b2]
    simpa using hu
  · match j, hv, hx with
    | 0, hv, hx =>
      simp at hv hx
      subst hv hx
      exact ⟨_, _, _, rfl, Nat.le_refl _, by omega, one _ _ b0 (by omega)⟩
    | 1, hv, hx =>
      simp at hv hx
      subst hv hx
      exact ⟨_, _, _, rfl, hnc, hc, (hr.below hold (Nat.le_refl _)).more (by omega)⟩
    | 2, hv, hx =>
      simp at hv hx
      subst hv hx
      exact ⟨_, _, _, rfl, Nat.le_refl _, by omega, one _ _ b1 (by omega)⟩
set_option maxHeartbeats 1000000 in
theorem impl_KeyedHash (key : Int) (A : Option Addr) (n c : Nat) (zs : List Int) (w : World) (hr : Rd w w.heap.size A n (zs.map (.int .i64))) (hn : n ≤ 1000000000) (hnc : n ≤ c) (hc : c ≤ 9223372036854775807) :
    Calls Try.prog 42 #[.int .i64 key, .slice A n c] w (Says (.int .i64 (Nc.keyed key zs)) w) := by
  have HR := Lib.hid (rdm_three key A n c zs w hr hnc hc 3 3 30)
  have HZ := Lib.hid hr.ilen
  go_enter Try.func42, Try.ntmps42
  go_wp2_with fail
  refine (slices_Concat_int _ _ _ [[key], zs, [key]] _ (by exact HR.out.more (by simp)) (by simp) (by omega) (by simp [HZ.out]; omega)).mono ?_
  rintro e w1 ⟨A1, n1, c1, rfl, ho1, hb1⟩
  have hs1 : w.heap.size + 3 ≤ w1.heap.size := by have := hb1.size; simp at this; omega
  have q1 : n1 ≤ 1099511627776 := by have := ho1.len; simp [HZ.out] at this; omega
  have hb2 : Below w.heap.size w w1 := ((((Below.refl _ _).alloc (Nat.le_refl _) _).alloc (by simp) _).alloc (by simp; omega) _).trans (hb1.mono (by simp; omega))
  have ho2 : Rd w1 w1.heap.size A1 n1 (([key] ++ zs ++ [key]).map (.int .i64)) := by have := ho1.rd; simpa using this
  clear hb1 ho1
  go_wp2_with fail
  refine (impl_Hash _ _ _ ([key] ++ zs ++ [key]) _ ho2 (by omega)).mono ?_
  rintro e w' ⟨rfl, rfl⟩
  go_wp2_with fail
  go_ret
  exact ⟨rfl, hb2⟩

theorem impl_orOne (k : Int) (w : World) :
    Calls Try.prog 103 #[.int .i64 k] w fun e w' => e = .returned (.int .i64 (Nc.maxI 1 k)) ∧ w = w' := by
  by_cases h : k < 1
  all_goals
    go_enter Try.func103, Try.ntmps103
    go_wp2
    go_ret
    exact ⟨ret_i64 (by unfold Nc.maxI; split <;> omega), rfl⟩

/-- A string's bytes as integers. -/
def Nc.bytesOf (s : ByteArray) : List Int := s.data.toList.map fun b => ((b.toNat : Nat) : Int)
theorem Nc.bytesOf_bd (s : ByteArray) : ∀ x ∈ Nc.bytesOf s, 0 ≤ x ∧ x ≤ 255 := by
  intro x hx
  obtain ⟨b, _, rfl⟩ := List.mem_map.1 hx
  have := b.toNat_lt
  omega
theorem Nc.bytesOf_len (s : ByteArray) : (Nc.bytesOf s).length = s.size := by simp [Nc.bytesOf]
/-- '[]byte(s)': what the new slice reads as. -/
theorem rd_bytesWorld (w : World) (e : TypeId) (s : ByteArray) : Rd (Lib.bytesWorld w e s) (w.heap.size + 1) (some ⟨w.heap.size, 0, none⟩) s.size ((Nc.bytesOf s).map (.int .u8)) := by
  refine ⟨by simp [Nc.bytesOf], fun _ => ⟨w.heap.size, 0, rfl, by omega, fun j u hu => ?_⟩⟩
  have hj : j < s.size := by
    have := (List.getElem?_eq_some_iff.1 hu).1
    simpa [Nc.bytesOf] using this
  rw [Nat.zero_add, Lib.bytesWorld_cell w e s j hj, ← hu]
  simp [Nc.bytesOf, hj]
theorem below_bytesWorld (w : World) (e : TypeId) (s : ByteArray) : Below w.heap.size w (Lib.bytesWorld w e s) :=
  ⟨rfl, rfl, rfl, by rw [Lib.bytesWorld_size]; omega, fun k hk => Lib.bytesWorld_at_old w e s k hk⟩
def Nc.derive (key : Int) (s : ByteArray) : Int := Nc.maxI 1 (Nc.keyed key (((Nc.bytesOf s).length : Int) :: Nc.bytesOf s))

set_option maxHeartbeats 1000000 in
theorem impl_DeriveFromString (key : Int) (s : ByteArray) (w : World) (hs : s.size ≤ 1048576) :
    Calls Try.prog 47 #[.int .i64 key, .string s] w (Says (.int .i64 (Nc.derive key s)) w) := by
  have hcv := Lib.run_convert_string_bytes (P := Try.prog) w 9 22 5 s Try.underlying9 Try.underlying22 Try.underlying5
  have R := rd_bytesWorld w 5 s
  have hb := below_bytesWorld w 5 s
  have hsz := Lib.bytesWorld_size w 5 s
  generalize Lib.bytesWorld w 5 s = w1 at hcv R hb hsz
  generalize grownCap w s.size 0 5 = G at hcv
  have hs1 : w.heap.size + 1 ≤ w1.heap.size := by omega
  clear hsz
  have HB := Lib.hid (Nc.bytesOf_bd s)
  have HL := Lib.hid (Nc.bytesOf_len s)
  go_enter Try.func47, Try.ntmps47
  go_wp2_with fail
  refine (impl_BytesToInts _ _ _ (Nc.bytesOf s) _ (R.more hs1) HB.out hs).mono ?_
  rintro e w2 ⟨A2, n2, c2, rfl, ho2, hb2⟩
  have q2 : n2 ≤ 1048577 := by have := ho2.len; simp only [List.length_map, List.length_cons, HL.out] at this; omega
  have hs2 := hb2.size
  have hb3 := hb.trans (hb2.mono (by omega))
  clear hb hb2 R
  go_wp2_with fail
  refine (impl_KeyedHash _ _ _ _ _ _ (ho2.rd) (by omega) ho2.cap ho2.capmax).mono ?_
  rintro e w3 ⟨rfl, hb4⟩
  have hb5 := hb3.trans (hb4.mono (by omega))
  clear hb3 hb4
  go_wp2_with fail
  refine (impl_orOne _ _).mono ?_
  rintro e w' ⟨rfl, rfl⟩
  go_wp2_with fail
  go_ret
  exact ⟨rfl, hb5⟩

end Go.Proofs.Ytnobbojjhehdfaa
