/- The content of nothing: the walks of All at it (layer 8), and of what All calls. -/
import Derived.Test.YtehoanpjlinfaaaMrkSound
namespace Go.Proofs.Ytehoanpjlinfaaa.Mrk
open Go.RowKit Go.Proofs.Ytehoanpjlinfaaa.Ints

set_option maxHeartbeats 2000000 in
set_option maxRecDepth 100000 in
theorem len64_none (w : World) : Calls Try.prog 114 #[.int .u64 0] w fun e w' => e = .returned (.int .i64 0) ∧ Below w.heap.size w w' := by
  go_enter Try.func114, Try.ntmps114
  go_wp2_with fail
  go_ret
  exact ⟨ret_int (by kernel_rfl), Below.refl _ _⟩
theorem len_none (w : World) : Calls Try.prog 62 #[.int .u64 0] w fun e w' => e = .returned (.int .i64 0) ∧ Below w.heap.size w w' := by
  go_enter Try.func62, Try.ntmps62
  go_wp2_with fail
  refine (len64_none _).mono ?_
  rintro e w1 ⟨rfl, hb⟩
  go_wp2_with fail
  go_ret
  exact ⟨rfl, hb⟩

/-- A slice of no mutations. -/
def Non (v : Value) : Prop := ∃ ao cap, v = .slice ao 0 cap

theorem insert_none (v c : Value) (w : World) (h : Non v) : Calls Try.prog 183 #[v, .int .i64 0, .int .i64 0, c] w fun e w' => e = .returned (.tuple #[]) ∧ Below w.heap.size w w' := by
  obtain ⟨ao, cap, rfl⟩ := h
  go_enter Try.func183, Try.ntmps183
  go_wp2_with fail
  go_loopw [8] (fun iv wr => iv = .int .i64 1 ∧ Below w.heap.size w wr) (fun _ _ => 0)
  case atStart => exact ⟨by first | rfl | go_num, Below.refl _ _⟩
  case round =>
    obtain ⟨rfl, hb⟩ := hrel
    go_wp2_with fail
    go_end0
    exact ⟨rfl, hb⟩

theorem pdq_none (v c : Value) (k : Int) (w : World) (h : Non v) : Calls Try.prog 167 #[v, .int .i64 0, .int .i64 0, .int .i64 k, c] w fun e w' => e = .returned (.tuple #[]) ∧ Below w.heap.size w w' := by
  have HI := Lib.hid (fun w => insert_none v c w h)
  obtain ⟨ao, cap, rfl⟩ := h
  go_enter Try.func167, Try.ntmps167
  go_wp2_with fail
  go_loopw [1, 2, 3] (fun av bv kv wr => av = .int .i64 0 ∧ bv = .int .i64 0 ∧ kv = .int .i64 k ∧ Below w.heap.size w wr) (fun _ _ _ _ => 0)
  case atStart => exact ⟨rfl, rfl, rfl, Below.refl _ _⟩
  case round =>
    obtain ⟨rfl, rfl, rfl, hb⟩ := hrel
    go_wp2_with fail
    refine (HI.out _).mono ?_
    rintro e w1 ⟨rfl, hb1⟩
    go_wp2_with fail
    refine bodyPost_ret (results_none rfl _ _ _) rfl ?_
    exact ⟨rfl, hb.trans (hb1.mono hb.size)⟩

theorem sort_none (v c : Value) (w : World) (h : Non v) : Calls Try.prog 137 #[v, c] w fun e w' => e = .returned (.tuple #[]) ∧ Below w.heap.size w w' := by
  have HP := Lib.hid (fun k w => pdq_none v c k w h)
  obtain ⟨ao, cap, rfl⟩ := h
  go_enter Try.func137, Try.ntmps137
  go_wp2_with fail
  refine (len_none _).mono ?_
  rintro e w1 ⟨rfl, hb⟩
  go_wp2_with fail
  refine (HP.out _ _).mono ?_
  rintro e w2 ⟨rfl, hb2⟩
  go_wp2_with fail
  go_end0
  exact ⟨rfl, hb.trans (hb2.mono hb.size)⟩

theorem grow_none (w : World) : Calls Try.prog 166 #[.slice none 0 0, .int .i64 0] w fun e w' => e = .returned (.slice none 0 0) ∧ w = w' := by
  go_enter Try.func166, Try.ntmps166
  go_wp2_with fail
  go_ret
  exact ⟨rfl, rfl⟩

set_option maxHeartbeats 1000000 in
theorem concat_none (b : Nat) (w : World) (hc : ∀ i, i < 3 → w.cell? ⟨b, i, none⟩ = some (.slice none 0 0)) : Calls Try.prog 136 #[.slice (some ⟨b, 0, none⟩) 3 3] w fun e w' => e = .returned (.slice none 0 0) ∧ w = w' := by
  have HC := Lib.hid hc
  clear hc
  go_enter Try.func136, Try.ntmps136
  go_wp2_with fail
  go_loop [3, 11] (fun nv iv => ∃ i : Nat, i ≤ 3 ∧ nv = .int .i64 0 ∧ iv = .int .i64 i) (fun _ iv => 3 - (intOf iv).toNat)
  case atStart => exact ⟨0, by omega, rfl, rfl⟩
  case round =>
    obtain ⟨i, hi, rfl, rfl⟩ := hrel
    by_cases hlt : i < 3
    · have c1 := HC.out i hlt
      go_wp2_with fail
      go_round
      case rel => exact ⟨i + 1, by omega, by first | rfl | go_num, by go_num⟩
      case measure => simp [intOf]; omega
    · obtain rfl : i = 3 := by omega
      go_wp2_with fail
      refine (grow_none _).mono ?_
      rintro e w1 ⟨rfl, rfl⟩
      go_wp2_with fail
      go_loop [6, 27] (fun nv iv => ∃ i : Nat, i ≤ 3 ∧ nv = .slice none 0 0 ∧ iv = .int .i64 i) (fun _ iv => 3 - (intOf iv).toNat)
      case atStart => exact ⟨0, by omega, rfl, rfl⟩
      case round =>
        obtain ⟨i, hi, rfl, rfl⟩ := hrel
        by_cases hlt : i < 3
        · have c1 := HC.out i hlt
          go_wp2_with fail
          go_round
          case rel => exact ⟨i + 1, by omega, by first | rfl | go_num, by go_num⟩
          case measure => simp [intOf]; omega
        · obtain rfl : i = 3 := by omega
          go_wp2_with fail
          go_ret
          exact ⟨rfl, rfl⟩

theorem info_M : (Try.prog.info? 146).map (fun i => (i.zero.isSome, i.size)) = some (true, 10) := by kernel_rfl
theorem info_parts_M : ∃ (i : TypeInfo) (z : Value), Try.prog.info? 146 = some i ∧ i.zero = some z ∧ i.size = 10 := by
  have h := info_M
  cases hq : Try.prog.info? 146 with
  | none => simp [hq] at h
  | some i =>
    simp [hq] at h
    obtain ⟨z, hz⟩ := Option.isSome_iff_exists.1 h.1
    exact ⟨i, z, rfl, hz, h.2⟩

set_option maxHeartbeats 1000000 in
set_option maxRecDepth 100000 in
theorem copies_none (w : World) : Calls Try.prog 135 #[.slice none 0 0] w fun e w' => ∃ v, e = .returned v ∧ Non v ∧ Below w.heap.size w w' := by
  obtain ⟨i0, z0, hi0, hz0, hz1⟩ := info_parts_M
  have HI := Lib.hid hi0
  have HZ0 := Lib.hid hz0
  have HZ1 := Lib.hid hz1
  clear hi0 hz0 hz1
  go_enter Try.func135, Try.ntmps135
  go_wp2_with (at_make; refine wpList_make_own _ rfl _ _ 102 rfl w.heap.size 146 i0 z0 10 Try.underlying102 HI.out HZ0.out HZ1.out .i64 .i64 0 0 rfl rfl rfl (by rw [Nat.mul_zero]; exact Nat.zero_le _) (Nat.zero_le _) (Nat.le_refl _) ?_; intro w0 hown0 hgrow0)
  have hb0 : Below w.heap.size w w0 := ⟨hgrow0.os, hgrow0.tape, hgrow0.output, hgrow0.size, fun i hi => hgrow0.block i hi (by simp)⟩
  clear hown0 hgrow0
  go_loopw [3, 11] (fun sv iv wr => iv = .int .i64 0 ∧ Non sv ∧ Below w.heap.size w wr) (fun _ _ _ => 0)
  case atStart => exact ⟨rfl, ⟨_, _, rfl⟩, hb0⟩
  case round =>
    obtain ⟨rfl, ⟨ao, cap, rfl⟩, hb⟩ := hrel
    go_wp2_with fail
    go_ret
    exact ⟨_, rfl, ⟨_, _, rfl⟩, hb⟩

/-- A content's cells. -/
def vNone : Value := .agg #[.slice none 0 0, .slice none 0 0, .slice none 0 0]

set_option maxHeartbeats 1000000 in
theorem all_none (w : World) : Calls Try.prog 99 #[vNone] w fun e w' => ∃ v, e = .returned v ∧ Non v ∧ Below w.heap.size w w' := by
  unfold vNone
  go_enter Try.func99, Try.ntmps99
  go_wp2_with fail
  refine (concat_none (w.heap.size + 1) _ ?_).mono ?_
  · intro i hi
    have h := new_cells (w.alloc (.cells #[Value.slice none 0 0, Value.slice none 0 0, Value.slice none 0 0] 104)) [Value.slice none 0 0, Value.slice none 0 0, Value.slice none 0 0] 102 i (.slice none 0 0) (by
      rcases (by omega : i = 0 ∨ i = 1 ∨ i = 2) with rfl | rfl | rfl <;> rfl)
    rw [addr_add] at h
    simpa using h
  rintro e w1 ⟨rfl, rfl⟩
  have hb0 : Below w.heap.size w ((w.alloc (.cells #[Value.slice none 0 0, Value.slice none 0 0, Value.slice none 0 0] 104)).alloc (.cells #[Value.slice none 0 0, Value.slice none 0 0, Value.slice none 0 0] 102)) := ((Below.refl _ _).alloc (Nat.le_refl _) _).alloc (by simp) _
  generalize ((w.alloc (.cells #[Value.slice none 0 0, Value.slice none 0 0, Value.slice none 0 0] 104)).alloc (.cells #[Value.slice none 0 0, Value.slice none 0 0, Value.slice none 0 0] 102)) = W1 at *
  go_wp2_with fail
  refine (copies_none _).mono ?_
  rintro e w2 ⟨v, rfl, hv, hb2⟩
  have HV := Lib.hid hv
  clear hv
  go_wp2_with fail
  refine (sort_none v _ _ HV.out).mono ?_
  rintro e w3 ⟨rfl, hb3⟩
  go_wp2_with fail
  go_ret
  exact ⟨_, rfl, HV.out, (hb0.trans (hb2.mono hb0.size)).trans (hb3.mono (Nat.le_trans hb0.size hb2.size))⟩
end Go.Proofs.Ytehoanpjlinfaaa.Mrk
