/- Contracts of ParseInt, in both packages. Conditions: stated with each theorem; impl.ParseInt asks that the library's table and its two error variables are as they were laid. -/
import Derived.Test.YtklgjhhlcpfkoaaDoorLaid
import Derived.Lib.AtoiErrMem
namespace Go.Proofs.YtklgjhhlcpfkoaaDoor
open Go.RowKit

/-- What ParseInt hands back. -/
def parseT (l : List UInt8) : Value := .tuple #[.int .i64 (Nc.parseV l).1, .bool (Nc.parseV l).2]
theorem ret_parse {l : List UInt8} {x : Int} {b : Bool} (h : Nc.parseV l = (x, b)) : Ending.returned (.tuple #[.int .i64 x, .bool b]) = .returned (parseT l) := by
  unfold parseT; rw [h]
theorem beq_bs (s t : ByteArray) : (s.toList == t.toList) = decide (s = t) := by
  rw [ByteArray.toList_eq, ByteArray.toList_eq, Bool.eq_iff_iff, beq_iff_eq, decide_eq_true_iff]
  exact ⟨fun h => ByteArray.ext (Array.toList_inj.1 h), fun h => by rw [h]⟩

set_option maxHeartbeats 1000000 in
theorem impl_ParseInt (s : ByteArray) (hl : s.size ≤ 281474976710656) (w : World) (ht : Tab w) (he : Errs w) :
    Calls Tryd.prog 7 #[.string s] w (Says (parseT s.data.toList) w) := by
  rcases hv : Lib.atoiAll s.data.toList with v | _ | _
  · obtain ⟨v0, v1⟩ := Lib.atoiAll_bounds hv
    cases hi : Nc.inB v 0 1000000000000
    · have HV := Lib.hid (Nc.parse_out hv (by simp [Nc.inB] at hi; omega))
      go_enter Tryd.func7, Tryd.ntmps7
      go_wp2_with fail
      refine (Tryd.strconv_Atoi_ok s (by omega) v hv _).mono ?_
      rintro e w1 ⟨rfl, hw⟩
      have hb : Below w.heap.size w w1 := by
        rcases hw with rfl | ⟨t, rfl⟩
        · exact Below.refl _ _
        · exact Lib.bytesWorld_below _ _ _
      clear hw
      go_wp2_with fail
      refine (impl_InRange _ _ _ _).mono ?_
      rintro e w' ⟨rfl, rfl⟩
      go_wp2_with fail
      go_ret2
      exact ⟨ret_parse HV.out, hb⟩
    · obtain ⟨i0, i1⟩ := Nc.inB_true hi
      go_enter Tryd.func7, Tryd.ntmps7
      go_wp2_with fail
      refine (Tryd.strconv_Atoi_ok s (by omega) v hv _).mono ?_
      rintro e w1 ⟨rfl, hw⟩
      have hb : Below w.heap.size w w1 := by
        rcases hw with rfl | ⟨t, rfl⟩
        · exact Below.refl _ _
        · exact Lib.bytesWorld_below _ _ _
      clear hw
      have hs := hb.size
      go_wp2_with fail
      refine (impl_InRange _ _ _ _).mono ?_
      rintro e w' ⟨rfl, rfl⟩
      go_wp2_with fail
      refine (impl_FormatInt v v0 v1 _ (ht.below hb (Nat.le_refl _))).mono ?_
      rintro e w2 ⟨rfl, hb2⟩
      cases hq : (((bs (Lib.itoa v)).toList) == s.toList)
      · have HV := Lib.hid (Nc.parse_unlike hv (show Lib.itoa v ≠ s.data.toList by
          intro q
          rw [q, ← bs_of s] at hq
          simp at hq))
        generalize bs (Lib.itoa v) = s1 at hq ⊢
        go_wp2_with fail
        go_ret2
        exact ⟨ret_parse HV.out, hb.trans (hb2.mono hs)⟩
      · have HV := Lib.hid (Nc.parse_like i0 i1 (show Lib.itoa v = s.data.toList by
          rw [beq_iff_eq, ByteArray.toList_eq, ByteArray.toList_eq] at hq
          rw [← hq]; exact (bs_list _).symm))
        generalize bs (Lib.itoa v) = s1 at hq ⊢
        go_wp2_with fail
        go_ret2
        exact ⟨ret_parse HV.out, hb.trans (hb2.mono hs)⟩
  · obtain ⟨⟨t, p, h0⟩, -⟩ := he
    have HV := Lib.hid (Nc.parse_fail (l := s.data.toList) (fun v => by rw [hv]; simp))
    go_enter Tryd.func7, Tryd.ntmps7
    go_wp2_with fail
    refine (Tryd.strconv_Atoi_bad s hl hv _ _ h0 (.inr ⟨_, _, rfl⟩)).mono ?_
    rintro e w1 ⟨M, rfl, -, -, hb⟩
    go_wp2_with fail
    go_ret2
    exact ⟨ret_parse HV.out, hb⟩
  · obtain ⟨-, ⟨t, p, h0⟩⟩ := he
    have HV := Lib.hid (Nc.parse_fail (l := s.data.toList) (fun v => by rw [hv]; simp))
    go_enter Tryd.func7, Tryd.ntmps7
    go_wp2_with fail
    refine (Tryd.strconv_Atoi_range s hl hv _ _ h0 (.inr ⟨_, _, rfl⟩)).mono ?_
    rintro e w1 ⟨M, rfl, -, -, hb⟩
    go_wp2_with fail
    go_ret2
    exact ⟨ret_parse HV.out, hb⟩

set_option maxHeartbeats 1000000 in
theorem spec_ParseInt (s : ByteArray) (hl : s.size ≤ 281474976710656) (w : World) :
    Calls Tryd.prog 6 #[.string s] w (Says (parseT s.data.toList) w) := by
  have HL := Lib.hid (show s.data.toList.length = s.size from Array.length_toList)
  cases hi : Nc.inB s.size 1 13
  · have HV := Lib.hid (Nc.parse_len (l := s.data.toList) (by rw [HL.out]; simp [Nc.inB] at hi; omega))
    go_enter Tryd.func6, Tryd.ntmps6
    go_wp2_with fail
    refine (spec_l1In _ _ _ _).mono ?_
    rintro e w' ⟨rfl, rfl⟩
    go_wp2_with fail
    go_ret2
    exact ⟨ret_parse HV.out, Below.refl _ _⟩
  · obtain ⟨i0, i1⟩ := Nc.inB_true hi
    have hn : s.size ≤ 13 := by omega
    go_enter Tryd.func6, Tryd.ntmps6
    go_wp2_with fail
    refine (spec_l1In _ _ _ _).mono ?_
    rintro e w' ⟨rfl, rfl⟩
    go_wp2_with fail
    go_loop [4, 5] (fun x i => ∃ k m : Nat, k ≤ s.size ∧ x = .int .i64 m ∧ i = .int .i64 k ∧ Lib.decFrom 0 (s.data.toList.take k) = some m) (fun _ i => s.size - (intOf i).toNat)
    case atStart => exact ⟨0, 0, Nat.zero_le _, rfl, rfl, by rw [List.take_zero]; rfl⟩
    case round =>
      obtain ⟨k, m, hk, rfl, rfl, hI⟩ := hrel
      have hm := Lib.decFrom_take_lt hI (by omega)
      by_cases hlt : k < s.size
      · have hg : s.data.toList[k]? = some s[k] := by
          have hk' : k < s.data.toList.length := by rw [HL.out]; exact hlt
          rw [List.getElem?_eq_getElem hk']; rfl
        have hb8 : s[k].toNat < 256 := UInt8.toNat_lt _
        cases hd : Nc.inB s[k].toNat 48 57
        · have HV := Lib.hid (Nc.parse_dig hg (by simp [Nc.inB] at hd; omega))
          clear hg hI
          go_wp2_with fail
          refine (spec_l1In _ _ _ _).mono ?_
          rintro e w' ⟨rfl, rfl⟩
          go_wp2_with fail
          go_ret2
          exact ⟨ret_parse HV.out, Below.refl _ _⟩
        · obtain ⟨d0, d1⟩ := Nc.inB_true hd
          have HN := Lib.hid (Lib.decFrom_take s.data.toList k 0 m _ (s[k].toNat - 48) hI hg (by unfold Lib.digitVal; rw [if_pos (by omega)]))
          clear hg hI
          go_wp2_with fail
          refine (spec_l1In _ _ _ _).mono ?_
          rintro e w' ⟨rfl, rfl⟩
          go_wp2_with fail
          go_round
          case rel => exact ⟨k + 1, m * 10 + (s[k].toNat - 48), by omega, by go_num, by go_num, HN.out⟩
          case measure => simp [intOf]; omega
      · obtain rfl : k = s.size := by omega
        rw [List.take_of_length_le (by rw [HL.out]; omega)] at hI
        by_cases hg : (1000000000000 : Int) < m
        · have HV := Lib.hid (Nc.parse_great hI (by omega))
          clear hI
          go_wp2_with fail
          go_ret2
          exact ⟨ret_parse HV.out, Below.refl _ _⟩
        · have HI := Lib.hid hI
          clear hI
          go_wp2_with fail
          refine (spec_FormatInt m (by omega) (by omega) _).mono ?_
          rintro e w2 ⟨rfl, hb2⟩
          cases hq : (((bs (Lib.itoa m)).toList) == s.toList)
          · have HV := Lib.hid (Nc.parse_other HI.out (show s.data.toList ≠ Lib.decDigits m by
              intro q
              rw [Lib.itoa_nonneg, ← q, ← bs_of s] at hq
              simp at hq))
            generalize bs (Lib.itoa m) = s1 at hq ⊢
            go_wp2_with fail
            go_ret2
            exact ⟨ret_parse HV.out, hb2⟩
          · have HV := Lib.hid (Nc.parse_like (v := m) (by omega) (by omega) (show Lib.itoa m = s.data.toList by
              rw [beq_iff_eq, ByteArray.toList_eq, ByteArray.toList_eq] at hq
              rw [← hq]; exact (bs_list _).symm))
            generalize bs (Lib.itoa m) = s1 at hq ⊢
            go_wp2_with fail
            go_ret2
            exact ⟨ret_parse HV.out, hb2⟩

end Go.Proofs.YtklgjhhlcpfkoaaDoor
