/- Contracts of FormatInt, in both packages. Conditions: stated with each theorem; impl.FormatInt asks that the library's table of powers of ten is as it was laid. -/
import Derived.Test.YtklgjhhlcpfkoaaDoorVec2
import Derived.Test.YtklgjhhlcpfkoaaDoorDigits
import Derived.Test.YtklgjhhlcpfkoaaDoorShelf
import Derived.Lib.SmallJoins
import Derived.Lib.AppendIntMem
import Derived.Lib.ItoaLen
namespace Go.Proofs.YtklgjhhlcpfkoaaDoor
open Go.RowKit

/-- A list of bytes as a string. -/
def bs (l : List UInt8) : ByteArray := ⟨l.toArray⟩
theorem bs_list (l : List UInt8) : (bs l).data.toList = l := by simp [bs]
theorem bs_of (s : ByteArray) : s = bs s.data.toList := by simp [bs]
theorem bs_inj {l r : List UInt8} (h : bs l = bs r) : l = r := by rw [← bs_list l, h, bs_list]
theorem bs_app (l r : List UInt8) : bs l ++ bs r = bs (l ++ r) := by
  apply ByteArray.ext
  simp [bs]
theorem bs_one {d : Nat} {z : Int} (h : z = 48 + (d : Int)) : bstr [z] = bs [UInt8.ofNat (48 + d)] := by
  subst h
  unfold bstr bs
  have : ((48 : Int) + (d : Int)).toNat = 48 + d := by omega
  simp [this]

/-- One byte as a string. -/
theorem conv_one (wr : World) (v : Int) (d : Nat) (h : v = 48 + (d : Int)) : ∃ s : ByteArray, s.size ≤ 1 ∧ Hid (s = bs [UInt8.ofNat (48 + d)]) ∧
    (convert 25 9 (.slice (some ⟨wr.heap.size, 0, none⟩) 1 1)).run Tryd.prog (wr.alloc (.cells #[.int .u8 v] 5)) = .ok (.string s) (wr.alloc (.cells #[.int .u8 v] 5)) := by
  have hr : Rd (wr.alloc (.cells #[.int .u8 v] 5)) (wr.heap.size + 1) (some ⟨wr.heap.size, 0, none⟩) 1 ([v].map (.int .u8)) := by
    refine ⟨rfl, fun _ => ⟨_, _, rfl, Nat.lt_succ_self _, fun j u hu => ?_⟩⟩
    match j, hu with
    | 0, hu => simp at hu; subst hu; simp
  have c1 := conv_bytes (P := Tryd.prog) hr 25 9 5 1 Tryd.underlying25 Tryd.underlying5 Tryd.underlying9
  exact ⟨_, by rw [bs_one h]; exact Nat.le_refl _, Lib.hid (bs_one h), c1⟩

theorem Tryd.gPow : Tryd.prog.globalNamed "internal/strconv.uint64pow10" = some 2 := by kernel_rfl
/-- The library's table is as it was laid. -/
def Tab (w : World) : Prop := Lib.TabIs Tryd.prog w "internal/strconv.uint64pow10" .u64 Lib.pow10Tab
theorem Tab.below {w w' : World} {B : Nat} (h : Tab w) (hb : Below B w w') (hB : w.heap.size ≤ B) : Tab w' := Joins.tab_stays Tryd.gPow h hb hB

theorem impl_FormatInt (n : Int) (h0 : -9223372036854775808 ≤ n) (h1 : n ≤ 9223372036854775807) (w : World) (ht : Tab w) :
    Calls Tryd.prog 11 #[.int .i64 n] w (Says (.string (bs (Lib.itoa n))) w) := by
  go_enter Tryd.func11, Tryd.ntmps11
  go_wp2_with fail
  refine (Tryd.strconv_Itoa n h0 h1 _ ht).mono ?_
  rintro e w1 ⟨rfl, k, os, rfl⟩
  have hb := Lib.below_grow w.heap.size w (Nat.le_refl _) k os
  obtain ⟨w1, hw1⟩ : ∃ x, x = _root_.Go.Sort.grow (w.drewN k) os := ⟨_, rfl⟩
  rw [← hw1] at hb ⊢
  clear hw1
  go_wp2_with fail
  go_ret
  exact ⟨rfl, hb⟩

set_option maxHeartbeats 1000000 in
theorem spec_FormatInt (n : Int) (h0 : -9223372036854775808 ≤ n) (h1 : n ≤ 9223372036854775807) (w : World) :
    Calls Tryd.prog 15 #[.int .i64 n] w (Says (.string (bs (Lib.itoa n))) w) := by
  by_cases hz : n = 0
  · subst hz
    go_enter Tryd.func15, Tryd.ntmps15
    go_wp2
    go_ret
    exact ⟨by rw [show Lib.itoa 0 = [48] by rw [show (0 : Int) = ((0 : Nat) : Int) from rfl, Lib.itoa_nonneg, Lib.decDigits_one (by omega)]; rfl]; rfl, Below.refl _ _⟩
  · have hq : (n == 0) = false := by simpa using hz
    have HS := Lib.hid (show Lib.decDigits n.natAbs = Nc.pre n.natAbs ++ [] by simp [Nc.pre, hz])
    go_enter Tryd.func15, Tryd.ntmps15
    go_wp2
    go_loopw [3, 4] (fun s x wr => ∃ (l : List UInt8) (z : Int), s = .string (bs l) ∧ x = .int .i64 z ∧ Lib.decDigits n.natAbs = Nc.pre z.natAbs ++ l ∧ -9223372036854775808 ≤ z ∧ z ≤ 9223372036854775807 ∧ Below w.heap.size w wr) (fun _ x _ => (intOf x).natAbs)
    case atStart => exact ⟨[], n, rfl, rfl, HS.out, h0, h1, Below.refl _ _⟩
    case round =>
      obtain ⟨l, z, rfl, rfl, hI, z0, z1, hb⟩ := hrel
      have sz : (bs l).size ≤ 20 := by
        have q1 := congrArg List.length hI
        have q2 := Lib.nDigits_le20 n.natAbs (by omega)
        rw [Lib.decDigits_length, List.length_append] at q1
        have q3 : (bs l).size = l.length := by simp [bs, ByteArray.size]
        omega
      by_cases hz0 : z = 0
      · subst hz0
        have HE := Lib.hid (Nc.itoa_end hI)
        clear hI
        by_cases hn : n < 0
        · go_wp2
          go_ret
          exact ⟨by rw [HE.out, if_pos hn]; exact congrArg (fun s => Ending.returned (.string s)) (bs_app [45] l), hb⟩
        · go_wp2
          go_ret
          exact ⟨by rw [HE.out, if_neg (by omega)]; rfl, hb⟩
      · have e0 : (z != 0) = true := by simpa using hz0
        have HN := Lib.hid (hI.trans (Nc.pre_step (by omega) l))
        have ha := Nc.tmod_abs z
        have hv := Nc.tdiv_abs z
        have HQ := Lib.hid hv
        have q0 : -922337203685477580 ≤ z.tdiv 10 := by omega
        have q1 : z.tdiv 10 ≤ 922337203685477580 := by omega
        have b0 : -9 ≤ z.tmod 10 := by omega
        have b1 : z.tmod 10 ≤ 9 := by omega
        have hs := hb.size
        have hlt := Lib.hid (show (z.tdiv 10).natAbs < z.natAbs by omega)
        clear hI
        by_cases hd : z.tmod 10 < 0
        · obtain ⟨s1, hs1, HV, c1⟩ := conv_one wr (48 + -z.tmod 10) (z.natAbs % 10) (by omega)
          clear ha hv
          go_wp2
          go_roundw
          case rel => exact ⟨UInt8.ofNat (48 + z.natAbs % 10) :: l, z.tdiv 10, congrArg Value.string (by rw [HV.out]; exact bs_app _ _), rfl, by rw [HQ.out]; exact HN.out, by omega, by omega, hb.alloc hs _⟩
          case measure => exact hlt.out
        · obtain ⟨s1, hs1, HV, c1⟩ := conv_one wr (48 + z.tmod 10) (z.natAbs % 10) (by omega)
          clear ha hv
          go_wp2
          go_roundw
          case rel => exact ⟨UInt8.ofNat (48 + z.natAbs % 10) :: l, z.tdiv 10, congrArg Value.string (by rw [HV.out]; exact bs_app _ _), rfl, by rw [HQ.out]; exact HN.out, by omega, by omega, hb.alloc hs _⟩
          case measure => exact hlt.out

end Go.Proofs.YtklgjhhlcpfkoaaDoor
