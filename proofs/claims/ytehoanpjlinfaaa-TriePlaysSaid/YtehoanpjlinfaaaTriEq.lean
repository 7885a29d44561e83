/- Rows of texts, and of numbers: equal. -/
import Derived.Test.YtehoanpjlinfaaaTriSeq
import Derived.Test.YtehoanpjlinfaaaInts
namespace Go.Proofs.Ytehoanpjlinfaaa.Tri
open Go.RowKit

theorem bytes_inj {x y : ByteArray} (h : x.toList = y.toList) : x = y := by
  rw [ByteArray.toList_eq, ByteArray.toList_eq] at h
  exact ByteArray.ext (Array.ext' h)
theorem bytes_ne {x y : ByteArray} (h : ¬ x.toList = y.toList) : ¬ x = y := fun e => h (by rw [e])
def eqS (a b : List ByteArray) : Bool := decide (a = b)
theorem eqS_iff (a b : List ByteArray) : eqS a b = true ↔ a = b := by unfold eqS; simp
theorem eqS_self (a : List ByteArray) : eqS a a = true := (eqS_iff a a).2 rfl

set_option maxHeartbeats 400000 in
theorem equalS_any (ao bo : Option Addr) (ac bc : Nat) (a b : List ByteArray) (w : World) (ha : SRow w (.slice ao a.length ac) a) (hb : SRow w (.slice bo b.length bc) b) (h1 : a.length ≤ 100000) (h2 : b.length ≤ 100000) :
    Calls Try.prog 15 #[.slice ao a.length ac, .slice bo b.length bc] w fun e w' => e = .returned (.bool (eqS a b)) ∧ Below w.heap.size w w' := by
  have HA := Lib.hid ha
  have HB := Lib.hid hb
  clear ha hb
  cases hl : ((a.length : Int) != (b.length : Int))
  · have hll : a.length = b.length := by simp at hl; omega
    have HLL := Lib.hid hll
    obtain ⟨r, hr⟩ : ∃ r, r = eqS a b := ⟨_, rfl⟩
    rw [← hr]
    have HR := Lib.hid hr
    clear hr hll
    go_enter Try.func15, Try.ntmps15
    go_wp2_with fail
    go_loopw [13] (fun iv wr => ∃ (k nq : Nat), k ≤ a.length ∧ iv = .int .i64 k ∧ wr = w.drewN nq ∧ Hid (eqS (a.drop k) (b.drop k) = r)) (fun iv _ => a.length - (intOf iv).toNat)
    case atStart => exact ⟨0, 0, by omega, rfl, rfl, Lib.hid (by rw [HR.out]; simp)⟩
    case round =>
      obtain ⟨k, nq0, hk, rfl, rfl, hq0⟩ := hrel
      by_cases hlt : k < a.length
      · have hlb : k < b.length := by have := HLL.out; omega
        obtain ⟨ab, aoff, rfl, _, a0⟩ := str_at HA.out (List.getElem?_eq_getElem hlt)
        obtain ⟨bb, boff, rfl, _, b0⟩ := str_at HB.out (List.getElem?_eq_getElem hlb)
        have hda := List.drop_eq_getElem_cons hlt
        have hdb := List.drop_eq_getElem_cons hlb
        generalize a[k] = x at *
        generalize b[k] = y at *
        have HDA := Lib.hid hda
        have HDB := Lib.hid hdb
        clear hda hdb
        cases hqq : (!x.toList == y.toList)
        · have HQ := Lib.hid hqq
          go_wp2_with fail
          go_quiet (fail)
          go_wp2_with fail
          go_roundw
          case rel => exact ⟨k + 1, _, by omega, by go_num, rfl, Lib.hid (by have h1 := hq0.out; rw [HDA.out, HDB.out] at h1; have h2 := HQ.out; simp at h2; rw [← h1]; unfold eqS; simp [bytes_inj h2])⟩
          case measure => simp [intOf]; omega
        · have HQ := Lib.hid hqq
          go_wp2_with fail
          go_quiet (fail)
          go_wp2_with fail
          go_ret
          exact ⟨by have h1 := hq0.out; rw [HDA.out, HDB.out] at h1; have h2 := HQ.out; simp at h2; rw [← h1]; unfold eqS; simp [bytes_ne h2], by repeat (first | exact Below.refl _ _ | apply below_drewN)⟩
      · obtain rfl : k = a.length := by omega
        go_wp2_with fail
        go_ret
        exact ⟨by have := hq0.out; rw [List.drop_length, HLL.out, List.drop_length] at this; rw [← this]; rfl, by repeat (first | exact Below.refl _ _ | apply below_drewN)⟩
  · have hll : a.length ≠ b.length := by simp at hl; omega
    have : eqS a b = false := by
      cases h : eqS a b with
      | false => rfl
      | true => rw [eqS_iff] at h; exact (hll (by rw [h])).elim
    rw [this]
    clear hll this
    go_enter Try.func15, Try.ntmps15
    go_wp2_with fail
    go_ret
    exact ⟨rfl, Below.refl _ _⟩

theorem equalS_lit (q : Bool) (ao bo : Option Addr) (ac bc : Nat) (a b : List ByteArray) (w : World) (hq : eqS a b = q) (ha : SRow w (.slice ao a.length ac) a) (hb : SRow w (.slice bo b.length bc) b) (h1 : a.length ≤ 100000) (h2 : b.length ≤ 100000) :
    Calls Try.prog 15 #[.slice ao a.length ac, .slice bo b.length bc] w fun e w' => e = .returned (.bool q) ∧ Below w.heap.size w w' := by
  rw [← hq]; exact equalS_any ao bo ac bc a b w ha hb h1 h2


end Go.Proofs.Ytehoanpjlinfaaa.Tri
