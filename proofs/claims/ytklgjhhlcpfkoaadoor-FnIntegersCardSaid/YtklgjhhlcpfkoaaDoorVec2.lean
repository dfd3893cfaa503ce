/- Contracts of the functions over one slice: equality, the leading index, validity, the hash, unit vectors, marks. Conditions: stated with each theorem. -/
import Derived.Test.YtklgjhhlcpfkoaaDoorVec
import Derived.Laws.BytesString
import Derived.Laws.IdiomStrings
namespace Go.Proofs.YtklgjhhlcpfkoaaDoor
open Go.RowKit

theorem lead_hit {zs : List Int} {k : Nat} {x : Int} (h : Nc.lead zs = Nc.leadFrom (zs.drop k) k) (hx : zs[k]? = some x) (hz : (x != 0) = true) : Nc.lead zs = (k : Int) := by
  rw [h, drop_next hx]; simp only [Nc.leadFrom, hz, if_true]
theorem lead_next {zs : List Int} {k : Nat} {x : Int} (h : Nc.lead zs = Nc.leadFrom (zs.drop k) k) (hx : zs[k]? = some x) (hz : (x != 0) = false) : Nc.lead zs = Nc.leadFrom (zs.drop (k + 1)) (k + 1) := by
  rw [h, drop_next hx]; simp only [Nc.leadFrom, hz, Bool.false_eq_true, if_false]
theorem lead_end {zs : List Int} {n : Nat} (h : Nc.lead zs = Nc.leadFrom (zs.drop n) n) (hl : zs.length = n) : Nc.lead zs = -1 := by
  rw [h, List.drop_of_length_le (by omega)]; rfl
def LeadIs (zs : List Int) (k : Nat) : Prop := Nc.lead zs = Nc.leadFrom (zs.drop k) k

def AllIs (zs : List Int) (k : Nat) : Prop := zs.all Nc.elB = (zs.drop k).all Nc.elB
theorem all_next {zs : List Int} {k : Nat} {x : Int} (h : AllIs zs k) (hx : zs[k]? = some x) (hz : Nc.elB x = true) : AllIs zs (k + 1) := by
  unfold AllIs at h ⊢; rw [h, drop_next hx, List.all_cons, hz, Bool.true_and]
theorem all_no {zs : List Int} {k : Nat} {x : Int} (hx : zs[k]? = some x) (hz : Nc.elB x = false) : Nc.vecB zs = false := by
  have : zs.all Nc.elB = false := List.all_eq_false.2 ⟨x, List.mem_of_getElem? hx, by simp [hz]⟩
  simp [Nc.vecB, this]
theorem all_end {zs : List Int} {n : Nat} (h : AllIs zs n) (hl : zs.length = n) : Nc.vecB zs = decide ((n : Int) ≤ 40) := by
  unfold AllIs at h; rw [List.drop_of_length_le (by omega)] at h
  unfold Nc.vecB; rw [h, hl, List.all_nil, Bool.true_and]; congr 1; exact propext (by omega)

def HashIs (zs : List Int) (k : Nat) (s : Int) : Prop := Nc.hashL zs = (zs.drop k).foldl Nc.hstep s
theorem hash_next {zs : List Int} {k : Nat} {s x : Int} (h : HashIs zs k s) (hx : zs[k]? = some x) : HashIs zs (k + 1) (Nc.hstep s x) := by
  unfold HashIs at h ⊢; rw [h, drop_next hx, List.foldl_cons]
theorem hash_end {zs : List Int} {n : Nat} {s : Int} (h : HashIs zs n s) (hl : zs.length = n) : Nc.hashL zs = s := by
  unfold HashIs at h; rw [h, List.drop_of_length_le (by omega)]; rfl

theorem Own.blk {w : World} {lo hi : Nat} {e : TypeId} {A : Option Addr} {n c : Nat} {xs : List Value} (h : Own w lo hi e A n c xs) : ∀ g, A.map (·.block) = some g → lo ≤ g ∧ g < hi := by
  intro g hg
  cases A with
  | none => cases hg
  | some a =>
    simp only [Option.map_some, Option.some.injEq] at hg
    subst hg
    exact ⟨(h.1.lt a.block rfl).1, h.2 a rfl⟩

/-- The bytes as a string. -/
def bstr (zs : List Int) : ByteArray := ⟨(zs.map fun n => UInt8.ofNat n.toNat).toArray⟩
theorem fold_push (zs : List Int) (l : List UInt8) : zs.foldl (fun (r : ByteArray) n => r.push (UInt8.ofNat n.toNat)) ⟨l.toArray⟩ = ⟨(l ++ zs.map fun n => UInt8.ofNat n.toNat).toArray⟩ := by
  induction zs generalizing l with
  | nil => simp
  | cons z zs ih =>
    rw [List.foldl_cons]
    have : (⟨l.toArray⟩ : ByteArray).push (UInt8.ofNat z.toNat) = ⟨(l ++ [UInt8.ofNat z.toNat]).toArray⟩ := by simp [ByteArray.push]
    rw [this, ih]; simp
theorem conv_bytes {P : Program} {w : World} {B : Nat} {A : Option Addr} {n : Nat} {zs : List Int} (h : Rd w B A n (zs.map (.int .u8))) (src dst e : TypeId) (c : Nat)
    (hs : P.underlying src = some (.slice e)) (he : P.underlying e = some (.int .u8)) (hd : P.underlying dst = some .string) :
    (convert src dst (.slice A n c)).run P w = .ok (.string (bstr zs)) w := by
  rw [run_convert_bytes_string w src dst e A n c hs he hd]
  have hl := h.ilen
  cases A with
  | none =>
    have h0 : n = 0 := by
      rcases Nat.eq_zero_or_pos n with h0 | h0
      · exact h0
      · obtain ⟨_, _, h', _⟩ := h.2 h0; cases h'
    subst h0
    have : zs = [] := List.eq_nil_of_length_eq_zero hl
    subst this
    simp [Conv.bytesToString]; rfl
  | some a =>
    have hc : ∀ j u, (zs.map (Value.int .u8))[j]? = some u → w.cell? (a.add j) = some u := by
      intro j u hu
      have hj : j < n := by
        have := (List.getElem?_eq_some_iff.1 hu).1
        simpa [hl] using this
      obtain ⟨b, off, h', _, hc⟩ := h.2 (by omega)
      injection h' with h'
      subst h'
      rw [Addr.add_lit]
      exact hc j u hu
    have hld := run_loadCells_list (P := P) w a (zs.map (Value.int .u8)) hc
    simp only [List.length_map, hl] at hld
    rw [run_bytesToString w a n c zs hld]
    have := fold_push zs []
    simp only [List.nil_append] at this
    rw [show ByteArray.empty = (⟨([] : List UInt8).toArray⟩ : ByteArray) from rfl, this]
    rfl
theorem bstr_inj {xs ys : List Int} (hx : ∀ x ∈ xs, 0 ≤ x ∧ x ≤ 255) (hy : ∀ x ∈ ys, 0 ≤ x ∧ x ≤ 255) (h : bstr xs = bstr ys) : xs = ys := by
  have h1 : xs.map (fun n => UInt8.ofNat n.toNat) = ys.map (fun n => UInt8.ofNat n.toNat) := by
    have := congrArg (fun b : ByteArray => b.data.toList) h
    simpa [bstr] using this
  clear h
  induction xs generalizing ys with
  | nil => cases ys with
    | nil => rfl
    | cons y ys => simp at h1
  | cons x xs ih => cases ys with
    | nil => simp at h1
    | cons y ys =>
      simp only [List.map_cons, List.cons.injEq] at h1
      have e : x = y := by
        have e1 := congrArg UInt8.toNat h1.1
        have bx := hx x (by simp)
        have by_ := hy y (by simp)
        simp only [UInt8.toNat_ofNat'] at e1
        omega
      rw [e, ih (fun z hz => hx z (by simp [hz])) (fun z hz => hy z (by simp [hz])) h1.2]

end Go.Proofs.YtklgjhhlcpfkoaaDoor
