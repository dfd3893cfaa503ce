/- Contracts of the drawn strings that ParseInt is tried at. Conditions: stated with each theorem. -/
import Derived.Test.YtklgjhhlcpfkoaaDoorDraw2
import Derived.Test.YtklgjhhlcpfkoaaDoorFmt
namespace Go.Proofs.YtklgjhhlcpfkoaaDoor
open Go.RowKit

/-- A string of a list that lies behind the cursor. -/
def DrawsT (P : ByteArray → Prop) (w : World) (g : Nat) (r : Ending) (w' : World) : Prop := ∃ s : ByteArray, r = .returned (.string s) ∧ P s ∧ Cur w' g ∧ w.grownBy w' (some g)

theorem spec_l1Str (g : Nat) (A : Option Addr) (n c : Nat) (zs : List ByteArray) (P : ByteArray → Prop) (B : Nat) (w : World) (hcur : Cur w g) (hr : Own w (g + 1) B 9 A n c (zs.map .string)) (h0 : 1 ≤ n) (h1 : n ≤ 1000000) (hz : ∀ x ∈ zs, P x) :
    Calls Tryd.prog 21 #[.pointer (some ⟨g, 0, none⟩), .slice A n c] w (DrawsT P w g) := by
  have HZ := Lib.hid hz
  clear hz
  go_enter Tryd.func21, Tryd.ntmps21
  go_wp2_with fail
  refine (spec_l1Below g n _ hcur (by omega) (by omega)).mono ?_
  rintro e w1 ⟨x, rfl, x0, x1, cu, gr⟩
  have hr1 := hr.grown gr (fun k hk => by injection hk with hk; omega)
  obtain ⟨k, rfl⟩ := Int.eq_ofNat_of_zero_le x0
  obtain ⟨b, o, u, rfl, hbB, hu, hc⟩ := hr1.rd.at_ (j := k) (by omega)
  rw [List.getElem?_map] at hu
  obtain ⟨s, hs, rfl⟩ : ∃ s, zs[k]? = some s ∧ Value.string s = u := by
    cases h : zs[k]? with
    | none => rw [h] at hu; cases hu
    | some s => rw [h] at hu; simp only [Option.map_some, Option.some.injEq] at hu; exact ⟨s, rfl, hu⟩
  have hP := Lib.hid (HZ.out s (List.mem_of_getElem? hs))
  have hk : k < n := by omega
  clear hs hu
  go_wp2_with fail
  go_ret
  exact ⟨_, rfl, hP.out, cu, gr⟩

theorem itoa_size (n : Int) (h0 : -9223372036854775808 ≤ n) (h1 : n ≤ 9223372036854775807) : (bs (Lib.itoa n)).size ≤ 21 := by
  have q3 : (bs (Lib.itoa n)).size = (Lib.itoa n).length := by simp [bs, ByteArray.size]
  rw [q3]; exact Lib.itoa_length_le n h0 h1
set_option maxHeartbeats 1000000 in
theorem spec_DrawParseInt (A : Option Addr) (n c : Nat) (xs : List Int) (w : World) (hr : Rd w w.heap.size A n (xs.map (.int .u8))) (hz : ∀ x ∈ xs, 0 ≤ x ∧ x ≤ 255) (hn : n ≤ 1048576) :
    Calls Tryd.prog 9 #[.slice A n c] w fun e w' => ∃ s : ByteArray, e = .returned (.string s) ∧ s.size ≤ 21 ∧ Below w.heap.size w w' := by
  have HZ := Lib.hid hz
  clear hz
  go_enter Tryd.func9, Tryd.ntmps9
  go_wp2_with fail
  refine (spec_l1New _ _ _ xs _ hr HZ.out hn).mono ?_
  rintro e W1 ⟨rfl, cu, hB⟩
  have hs1 := hB.size
  go_wp2_with fail
  refine (spec_l1Once _ 2 _ cu (by omega) (by omega)).mono ?_
  rintro e W2 ⟨b, rfl, cu1, gr1⟩
  have hs2 := gr1.size
  replace hB := hB.grown gr1 (by omega) (fun k hk => by injection hk with hk; omega)
  clear cu gr1
  have cu := cu1
  clear cu1
  cases b
  · go_wp2_with fail
    refine (spec_l1Num _ _ cu).mono ?_
    rintro e W3 ⟨x, rfl, x0, x1, cu1, gr1⟩
    have hs3 := gr1.size
    replace hB := hB.grown gr1 (by omega) (fun k hk => by injection hk with hk; omega)
    go_wp2_with fail
    refine (spec_FormatInt x (by omega) (by omega) _).mono ?_
    rintro e W4 ⟨rfl, hb⟩
    have hsz := itoa_size x (by omega) (by omega)
    generalize bs (Lib.itoa x) = s1 at hsz ⊢
    go_wp2_with fail
    go_ret
    exact ⟨_, rfl, hsz, hB.trans (hb.mono (by omega))⟩
  · go_wp2_with fail
    refine (spec_l1Str _ _ _ _ [⟨#[]⟩, ⟨#[48]⟩, ⟨#[48, 48]⟩, ⟨#[45, 49]⟩, ⟨#[48, 49]⟩, ⟨#[55]⟩, ⟨#[49, 48, 48, 48, 48, 48, 48, 48, 48, 48, 48, 48, 48]⟩, ⟨#[49, 48, 48, 48, 48, 48, 48, 48, 48, 48, 48, 48, 49]⟩, ⟨#[57, 57, 57, 57, 57, 57, 57, 57, 57, 57, 57, 57, 57, 57]⟩, ⟨#[49, 120]⟩, ⟨#[32, 49]⟩] (fun s => s.size ≤ 21) _ _ (cu.below ((Below.refl _ _).alloc (Nat.le_refl _) _) cu.lt) (Own.of (World.ownsRow_lit _ _ _ cu.lt (by decide) rfl) (Nat.le_refl _)) (by omega) (by omega) (by decide)).mono ?_
    rintro e W3 ⟨s, rfl, hs, cu1, gr1⟩
    replace hB := hB.grown ((World.grownBy_alloc _ _ _).trans gr1) (by omega) (fun k hk => by injection hk with hk; omega)
    go_wp2_with fail
    go_ret
    exact ⟨s, rfl, hs, hB⟩

end Go.Proofs.YtklgjhhlcpfkoaaDoor
