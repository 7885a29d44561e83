/- The walks of the sum of bytes (layer 24): merkle.sum, the document's 'on'. -/
import Derived.Test.YtkdgbkhnnehedaaGreatDoorMrkPlain
import Derived.Test.YtkdgbkhnnehedaaGreatDoorLstMore
import Derived.Laws.BitsAllLaws
import Derived.Laws.Bits64
import Derived.Laws.Bits128
set_option linter.unusedSimpArgs false
set_option linter.unusedVariables false
namespace Go.Proofs.YtkdgbkhnnehedaaGreatDoor.Mrk
open Go.RowKit

abbrev enB (n : Nat) : List Value := [.int .u8 n]
theorem enB_len (n : Nat) : (enB n).length = 1 := rfl
abbrev BRow (w : World) (v : Value) (l : List Nat) : Prop := Lst 1 enB w v l
theorem info_B : (Tryz.prog.info? 5).map (fun i => (i.zero, i.size, i.bytes)) = some (some (.int .u8 0), 1, 1) := by kernel_rfl
theorem flat_enB (l : List Nat) : l.flatMap enB = l.map (fun c : Nat => Value.int .u8 c) := by induction l <;> simp_all
theorem byte_at {w : World} {ao : Option Addr} {n cap : Nat} {l : List Nat} {k : Nat} {x : Nat} (h : BRow w (.slice ao n cap) l) (hk : l[k]? = some x) :
    ∃ b off, ao = some ⟨b, off, none⟩ ∧ b < w.heap.size ∧ w.cell? ⟨b, off + k, none⟩ = some (.int .u8 x) := by
  obtain ⟨hlt, he⟩ := List.getElem?_eq_some_iff.1 hk
  obtain ⟨b, off, ha, hb, hc⟩ := Lst.get h hlt
  have := hc 0 (by decide)
  rw [he, Nat.mul_one] at this
  exact ⟨b, off, ha, hb, this⟩

theorem u64_nat (n : Nat) (h : n < 18446744073709551616) : IntKind.u64.wrap (n : Int) = n := by rw [IntKind.wrap_u64]; omega
theorem step_eq (x c : Nat) (hx : x < 18446744073709551616) (hc : c < 256) : IntKind.u64.wrap (bits .xor .u64 (x : Int) (c : Int) * 1099511628211) = ((on1 x c : Nat) : Int) := by
  rw [u64_xor_nat x c hx (by omega), IntKind.wrap_u64]
  unfold on1
  omega
theorem fold_eq (y : Nat) (hy : y < 18446744073709551616) : bits .xor .u64 (y : Int) ((y : Int) / 536870912) = ((y ^^^ (y / 536870912) : Nat) : Int) := by
  rw [show ((y : Int) / 536870912) = ((y / 536870912 : Nat) : Int) by omega, u64_xor_nat y _ hy (by omega)]

set_option maxHeartbeats 1000000 in
theorem sum_any (x : Nat) (l : List Nat) (v : Value) (w : World) (hx : x < 18446744073709551616) (hl : BRow w v l) (hb : ∀ c ∈ l, c < 256) (hn : l.length ≤ 1000000000) :
    Calls Tryz.prog 71 #[.int .u64 x, v] w fun e w' => e = .returned (.int .u64 (sumF x l : Nat)) ∧ w = w' := by
  obtain ⟨ao, cap, rfl, -, -⟩ := Lst.form hl
  obtain ⟨n, hnn⟩ : ∃ n, n = l.length := ⟨_, rfl⟩
  rw [← hnn] at hl hn ⊢
  have HN := Lib.hid hnn
  have HL := Lib.hid hl
  have HB := Lib.hid hb
  clear hnn hl hb
  go_enter Tryz.func71, Tryz.ntmps71
  go_wp2_with fail
  go_loop [0, 9] (fun xv iv => ∃ (k y : Nat), iv = .int .i64 k ∧ xv = .int .u64 y ∧ k ≤ n ∧ y < 18446744073709551616 ∧ Hid (onF y (l.drop k) = onF x l)) (fun _ iv => n - (intOf iv).toNat)
  case atStart => exact ⟨0, x, rfl, rfl, by omega, hx, Lib.hid (by simp)⟩
  case round =>
    obtain ⟨k, y, rfl, rfl, hkn, hy, hs⟩ := hrel
    by_cases hlt : k < n
    · have hkl : k < l.length := by have := HN.out; omega
      obtain ⟨c, hc⟩ : ∃ c, l[k]? = some c := ⟨_, List.getElem?_eq_getElem hkl⟩
      obtain ⟨bb, boff, rfl, -, hcell⟩ := byte_at HL.out hc
      have hcb := HB.out c (List.mem_of_getElem? hc)
      have hstep := step_eq y c hy hcb
      have hs' : onF (on1 y c) (l.drop (k + 1)) = onF x l := by
        have h := hs.out
        rw [List.drop_eq_getElem_cons hkl] at h
        have e : l[k] = c := (List.getElem?_eq_some_iff.1 hc).2
        rw [e] at h; exact h
      have HS := Lib.hid hs'
      have hz := on1_lt y c
      obtain ⟨z, hze⟩ : ∃ z, z = on1 y c := ⟨_, rfl⟩
      rw [← hze] at hstep HS hz
      clear hs' hc hs hze
      go_wp2_with fail
      go_round
      case rel => exact ⟨k + 1, z, by go_num, rfl, by omega, hz, HS⟩
      case measure => simp [intOf]; omega
    · obtain rfl : k = n := by omega
      have he : y = onF x l := by have h := hs.out; rw [List.drop_of_length_le (by have := HN.out; omega)] at h; exact h
      have hf := fold_eq y hy
      have hfin : sumF x l = y ^^^ (y / 536870912) := by rw [he]; rfl
      obtain ⟨q, hq⟩ : ∃ q, q = y ^^^ (y / 536870912) := ⟨_, rfl⟩
      rw [← hq] at hf hfin
      have HF := Lib.hid hfin
      clear he hq hs hfin
      go_wp2_with fail
      go_ret
      exact ⟨by rw [HF.out]; rfl, rfl⟩

set_option maxHeartbeats 1000000 in
theorem on_any (x : Nat) (l : List Nat) (v : Value) (w : World) (hx : x < 18446744073709551616) (hl : BRow w v l) (hb : ∀ c ∈ l, c < 256) (hn : l.length ≤ 1000000000) :
    Calls Tryz.prog 75 #[.int .u64 x, v] w fun e w' => e = .returned (.int .u64 (sumF x l : Nat)) ∧ w = w' := by
  obtain ⟨ao, cap, rfl, -, -⟩ := Lst.form hl
  obtain ⟨n, hnn⟩ : ∃ n, n = l.length := ⟨_, rfl⟩
  rw [← hnn] at hl hn ⊢
  have HN := Lib.hid hnn
  have HL := Lib.hid hl
  have HB := Lib.hid hb
  clear hnn hl hb
  go_enter Tryz.func75, Tryz.ntmps75
  go_wp2_with fail
  go_loop [0, 5] (fun xv iv => ∃ (k y : Nat), iv = .int .i64 k ∧ xv = .int .u64 y ∧ k ≤ n ∧ y < 18446744073709551616 ∧ Hid (onF y (l.drop k) = onF x l)) (fun _ iv => n - (intOf iv).toNat)
  case atStart => exact ⟨0, x, rfl, rfl, by omega, hx, Lib.hid (by simp)⟩
  case round =>
    obtain ⟨k, y, rfl, rfl, hkn, hy, hs⟩ := hrel
    by_cases hlt : k < n
    · have hkl : k < l.length := by have := HN.out; omega
      obtain ⟨c, hc⟩ : ∃ c, l[k]? = some c := ⟨_, List.getElem?_eq_getElem hkl⟩
      obtain ⟨bb, boff, rfl, -, hcell⟩ := byte_at HL.out hc
      have hcb := HB.out c (List.mem_of_getElem? hc)
      have hstep := step_eq y c hy hcb
      have hs' : onF (on1 y c) (l.drop (k + 1)) = onF x l := by
        have h := hs.out
        rw [List.drop_eq_getElem_cons hkl] at h
        have e : l[k] = c := (List.getElem?_eq_some_iff.1 hc).2
        rw [e] at h; exact h
      have HS := Lib.hid hs'
      have hz := on1_lt y c
      obtain ⟨z, hze⟩ : ∃ z, z = on1 y c := ⟨_, rfl⟩
      rw [← hze] at hstep HS hz
      clear hs' hc hs hze
      go_wp2_with fail
      go_round
      case rel => exact ⟨k + 1, z, by go_num, rfl, by omega, hz, HS⟩
      case measure => simp [intOf]; omega
    · obtain rfl : k = n := by omega
      have he : y = onF x l := by have h := hs.out; rw [List.drop_of_length_le (by have := HN.out; omega)] at h; exact h
      have hf := fold_eq y hy
      have hfin : sumF x l = y ^^^ (y / 536870912) := by rw [he]; rfl
      obtain ⟨q, hq⟩ : ∃ q, q = y ^^^ (y / 536870912) := ⟨_, rfl⟩
      rw [← hq] at hf hfin
      have HF := Lib.hid hfin
      clear he hq hs hfin
      go_wp2_with fail
      go_ret
      exact ⟨by rw [HF.out]; rfl, rfl⟩
end Go.Proofs.YtkdgbkhnnehedaaGreatDoor.Mrk
