/- Rows of ints: slices.Equal, slices.Index, slices.Contains at []int. -/
import Derived.Test.YthdbilggnjjkhaaGreatDoorLst
set_option linter.unusedSimpArgs false
set_option linter.unusedVariables false
namespace Go.Proofs.YthdbilggnjjkhaaGreatDoor.Ints
open Go.RowKit

abbrev enI (n : Int) : List Value := [.int .i64 n]
theorem enI_len (n : Int) : (enI n).length = 1 := rfl
abbrev IRow (w : World) (v : Value) (l : List Int) : Prop := Lst 1 enI w v l
theorem info_I : (Tryz.prog.info? 3).map (fun i => (i.zero, i.size, i.bytes)) = some (some (.int .i64 0), 1, 8) := by kernel_rfl

theorem int_at {w : World} {ao : Option Addr} {n cap : Nat} {l : List Int} {k : Nat} {x : Int} (h : IRow w (.slice ao n cap) l) (hk : l[k]? = some x) :
    ∃ b off, ao = some ⟨b, off, none⟩ ∧ b < w.heap.size ∧ w.cell? ⟨b, off + k, none⟩ = some (.int .i64 x) := by
  obtain ⟨hlt, he⟩ := List.getElem?_eq_some_iff.1 hk
  obtain ⟨b, off, ha, hb, hc⟩ := Lst.get h hlt
  have := hc 0 (by decide)
  rw [he, Nat.mul_one] at this
  exact ⟨b, off, ha, hb, this⟩
theorem flat_enI (l : List Int) : l.flatMap enI = l.map (Value.int .i64) := by induction l <;> simp_all

def eqI (a b : List Int) : Bool := decide (a = b)
theorem eqI_iff (a b : List Int) : eqI a b = true ↔ a = b := by unfold eqI; simp
theorem eqI_self (a : List Int) : eqI a a = true := (eqI_iff a a).2 rfl

set_option maxHeartbeats 400000 in
theorem equal_any (ao bo : Option Addr) (ac bc : Nat) (a b : List Int) (w : World) (ha : IRow w (.slice ao a.length ac) a) (hb : IRow w (.slice bo b.length bc) b) (h1 : a.length ≤ 100000) (h2 : b.length ≤ 100000) :
    Calls Tryz.prog 22 #[.slice ao a.length ac, .slice bo b.length bc] w fun e w' => e = .returned (.bool (eqI a b)) ∧ Below w.heap.size w w' := by
  have HA := Lib.hid ha
  have HB := Lib.hid hb
  clear ha hb
  cases hl : ((a.length : Int) != (b.length : Int))
  · have hll : a.length = b.length := by simp at hl; omega
    have HLL := Lib.hid hll
    obtain ⟨r, hr⟩ : ∃ r, r = eqI a b := ⟨_, rfl⟩
    rw [← hr]
    have HR := Lib.hid hr
    clear hr hll
    go_enter Tryz.func22, Tryz.ntmps22
    go_wp2_with fail
    go_loopw [13] (fun iv wr => ∃ (k nq : Nat), k ≤ a.length ∧ iv = .int .i64 k ∧ wr = w.drewN nq ∧ Hid (eqI (a.drop k) (b.drop k) = r)) (fun iv _ => a.length - (intOf iv).toNat)
    case atStart => exact ⟨0, 0, by omega, rfl, rfl, Lib.hid (by rw [HR.out]; simp)⟩
    case round =>
      obtain ⟨k, nq0, hk, rfl, rfl, hq0⟩ := hrel
      by_cases hlt : k < a.length
      · have hlb : k < b.length := by have := HLL.out; omega
        obtain ⟨ab, aoff, rfl, _, a0⟩ := int_at HA.out (List.getElem?_eq_getElem hlt)
        obtain ⟨bb, boff, rfl, _, b0⟩ := int_at HB.out (List.getElem?_eq_getElem hlb)
        have hda := List.drop_eq_getElem_cons hlt
        have hdb := List.drop_eq_getElem_cons hlb
        generalize a[k] = x at *
        generalize b[k] = y at *
        have HDA := Lib.hid hda
        have HDB := Lib.hid hdb
        clear hda hdb
        cases hqq : (x != y)
        · have HQ := Lib.hid hqq
          go_wp2_with fail
          go_quiet (fail)
          go_wp2_with fail
          go_roundw
          case rel => exact ⟨k + 1, _, by omega, by go_num, rfl, Lib.hid (by have h1 := hq0.out; rw [HDA.out, HDB.out] at h1; have h2 := HQ.out; simp at h2; rw [← h1]; unfold eqI; simp [h2])⟩
          case measure => simp [intOf]; omega
        · have HQ := Lib.hid hqq
          go_wp2_with fail
          go_quiet (fail)
          go_wp2_with fail
          go_ret
          exact ⟨by have h1 := hq0.out; rw [HDA.out, HDB.out] at h1; have h2 := HQ.out; simp at h2; rw [← h1]; unfold eqI; simp [h2], by repeat (first | exact Below.refl _ _ | apply below_drewN)⟩
      · obtain rfl : k = a.length := by omega
        go_wp2_with fail
        go_ret
        exact ⟨by have := hq0.out; rw [List.drop_length, HLL.out, List.drop_length] at this; rw [← this]; rfl, by repeat (first | exact Below.refl _ _ | apply below_drewN)⟩
  · have hll : a.length ≠ b.length := by simp at hl; omega
    have : eqI a b = false := by
      cases h : eqI a b with
      | false => rfl
      | true => rw [eqI_iff] at h; exact (hll (by rw [h])).elim
    rw [this]
    clear hll this
    go_enter Tryz.func22, Tryz.ntmps22
    go_wp2_with fail
    go_ret
    exact ⟨rfl, Below.refl _ _⟩

theorem equal_lit (q : Bool) (ao bo : Option Addr) (ac bc : Nat) (a b : List Int) (w : World) (hq : eqI a b = q) (ha : IRow w (.slice ao a.length ac) a) (hb : IRow w (.slice bo b.length bc) b) (h1 : a.length ≤ 100000) (h2 : b.length ≤ 100000) :
    Calls Tryz.prog 22 #[.slice ao a.length ac, .slice bo b.length bc] w fun e w' => e = .returned (.bool q) ∧ Below w.heap.size w w' := by
  rw [← hq]; exact equal_any ao bo ac bc a b w ha hb h1 h2

/-- Is an int among some? -/
def hasI (l : List Int) (x : Int) : Bool := l.contains x
theorem hasI_iff (l : List Int) (x : Int) : hasI l x = true ↔ x ∈ l := by unfold hasI; simp

set_option maxHeartbeats 400000 in
theorem index_any (ao : Option Addr) (ac : Nat) (a : List Int) (x : Int) (w : World) (ha : IRow w (.slice ao a.length ac) a) (h1 : a.length ≤ 100000) :
    Calls Tryz.prog 32 #[.slice ao a.length ac, .int .i64 x] w fun e w' => ∃ i : Int, e = .returned (.int .i64 i) ∧ decide (0 ≤ i) = hasI a x ∧ w = w' := by
  have HA := Lib.hid ha
  clear ha
  go_enter Tryz.func32, Tryz.ntmps32
  go_wp2_with fail
  go_loop [8] (fun iv => ∃ (k : Nat), k ≤ a.length ∧ iv = .int .i64 k ∧ Hid (hasI (a.drop k) x = hasI a x)) (fun iv => a.length - (intOf iv).toNat)
  case atStart => exact ⟨0, by omega, rfl, Lib.hid (by simp)⟩
  case round =>
    obtain ⟨k, hk, rfl, hq0⟩ := hrel
    by_cases hlt : k < a.length
    · obtain ⟨ab, aoff, rfl, hbl, a0⟩ := int_at HA.out (List.getElem?_eq_getElem hlt)
      have hda := List.drop_eq_getElem_cons hlt
      generalize a[k] = y at *
      have HDA := Lib.hid hda
      clear hda
      cases hqq : (x == y)
      all_goals
        have HQ := Lib.hid hqq
        go_wp2_with fail
      · go_round
        case rel => exact ⟨k + 1, by omega, by go_num, Lib.hid (by have h1 := hq0.out; rw [HDA.out] at h1; have h2 := HQ.out; rw [← h1]; unfold hasI; simp at h2; simp [h2])⟩
        case measure => simp [intOf]; omega
      · go_ret
        exact ⟨k, rfl, by rw [← hq0.out, HDA.out]; have h2 := HQ.out; simp at h2; unfold hasI; simp [h2], rfl⟩
    · obtain rfl : k = a.length := by omega
      go_wp2_with fail
      go_ret
      exact ⟨-1, rfl, by rw [← hq0.out, List.drop_length]; rfl, rfl⟩

theorem contains_any (ao : Option Addr) (ac : Nat) (a : List Int) (x : Int) (w : World) (ha : IRow w (.slice ao a.length ac) a) (h1 : a.length ≤ 100000) :
    Calls Tryz.prog 18 #[.slice ao a.length ac, .int .i64 x] w fun e w' => e = .returned (.bool (hasI a x)) ∧ w = w' := by
  have HA := Lib.hid ha
  clear ha
  go_enter Tryz.func18, Tryz.ntmps18
  go_wp2_with fail
  refine (index_any ao ac a x _ HA.out h1).mono ?_
  rintro e w2 ⟨i, rfl, hi, rfl⟩
  have HI := Lib.hid hi
  clear hi
  go_wp2_with fail
  go_ret
  exact ⟨ret_bool HI.out, rfl⟩
theorem contains_lit (q : Bool) (ao : Option Addr) (ac : Nat) (a : List Int) (x : Int) (w : World) (hq : hasI a x = q) (ha : IRow w (.slice ao a.length ac) a) (h1 : a.length ≤ 100000) :
    Calls Tryz.prog 18 #[.slice ao a.length ac, .int .i64 x] w fun e w' => e = .returned (.bool q) ∧ w = w' := by
  rw [← hq]; exact contains_any ao ac a x w ha h1
end Go.Proofs.YthdbilggnjjkhaaGreatDoor.Ints
