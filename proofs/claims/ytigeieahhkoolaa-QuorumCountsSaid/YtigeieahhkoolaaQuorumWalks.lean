/- The walks of layer 32 (quorum): Need, Meets, and the laws QuorumNeeds, QuorumMeets. -/
import Derived.Test.YtigeieahhkoolaaProg
import Derived.Test.YtigeieahhkoolaaQuorumPlain
import Derived.WalkKit
import Derived.WalkSpells
import Derived.WalkLawsBesides
import Derived.Lib.Hide
namespace Go.Proofs.Ytigeieahhkoolaa.Quorum
open Go.RowKit

theorem ret2 {a b : Int} {x y : Bool} (h : a = b) (h2 : x = y) : Ending.returned (.tuple #[.int .i64 a, .bool x]) = .returned (.tuple #[.int .i64 b, .bool y]) := by rw [h, h2]

theorem need_any (l c : Int) (w : World) (_hc : c ≤ 9223372036854775807) (_hc' : -9223372036854775808 ≤ c) :
    Calls Try.prog 18 #[.int .i64 l, .int .i64 c] w fun e w' => e = .returned (.tuple #[.int .i64 (needV l c), .bool (needOk l c)]) ∧ w = w' := by
  by_cases h0 : c < 1
  · go_enter Try.func18, Try.ntmps18
    go_wp2
    go_ret2
    exact ⟨ret2 (by simp [needV, h0]) (by simp [needOk]; omega), rfl⟩
  · cases h1 : (l == 1)
    · cases h2 : (l == 2)
      · cases h3 : (l == 3)
        all_goals
          go_enter Try.func18, Try.ntmps18
          go_wp2
          go_ret2
          simp at h1 h2 h3
          exact ⟨ret2 (by simp [needV, *]; try omega) (by simp [needOk, *]; try omega), rfl⟩
      · go_enter Try.func18, Try.ntmps18
        go_wp2
        go_ret2
        simp at h1 h2
        exact ⟨ret2 (by simp [needV, *]; try omega) (by simp [needOk, *]; try omega), rfl⟩
    · go_enter Try.func18, Try.ntmps18
      go_wp2
      go_ret2
      simp at h1
      exact ⟨ret2 (by simp [needV, *]; try omega) (by simp [needOk, *]; try omega), rfl⟩

theorem lawneed_any (l c : Int) (w : World) (_hc : c ≤ 9223372036854775807) (_hc' : -9223372036854775808 ≤ c) :
    Calls Try.prog 19 #[.int .i64 l, .int .i64 c] w fun e w' => e = .returned (.tuple #[.int .i64 (needV l c), .bool (needOk l c)]) ∧ w = w' := by
  have i1 : ∀ (a b : Int) w, (Instr.index 78 (.agg #[.int .i64 0, .int .i64 1, .int .i64 a, .int .i64 b]) (.int .i64 1)).run Try.prog w = .ok (.int .i64 1) w := fun _ _ _ => by kernel_rfl
  have i2 : ∀ (a b : Int) w, (Instr.index 78 (.agg #[.int .i64 0, .int .i64 1, .int .i64 a, .int .i64 b]) (.int .i64 2)).run Try.prog w = .ok (.int .i64 a) w := fun _ _ _ => by kernel_rfl
  have i3 : ∀ (a b : Int) w, (Instr.index 78 (.agg #[.int .i64 0, .int .i64 1, .int .i64 a, .int .i64 b]) (.int .i64 3)).run Try.prog w = .ok (.int .i64 b) w := fun _ _ _ => by kernel_rfl
  cases hin : (decide (c < 1) || decide (l < 1) || decide (3 < l))
  · simp at hin
    obtain ⟨⟨hc1, hl1⟩, hl3⟩ := hin
    have hl : l = 1 ∨ l = 2 ∨ l = 3 := by omega
    rcases hl with rfl | rfl | rfl
    all_goals
      go_enter Try.func19, Try.ntmps19
      go_wp2
      go_ret2
      exact ⟨ret2 (by simp [needV]; try omega) (by simp [needOk]; try omega), rfl⟩
  · have h1 : needV l c = 0 := by
      simp at hin
      unfold needV
      repeat' split
      all_goals first | rfl | omega
    have h2 : needOk l c = false := by
      simp at hin
      simp [needOk]
      omega
    go_enter Try.func19, Try.ntmps19
    go_wp2
    all_goals
      go_ret2
      first | exact ⟨ret2 h1.symm h2.symm, rfl⟩ | exact ⟨rfl, rfl⟩

/-- Meets, by Need's contract. -/
theorem meets_any (a b c : Int) (w : World) (hc : c ≤ 9223372036854775807) (hc' : -9223372036854775808 ≤ c) :
    Calls Try.prog 21 #[.int .i64 a, .int .i64 b, .int .i64 c] w fun e w' => e = .returned (.bool (meetsV a b c)) ∧ w = w' := by
  obtain ⟨x1, x2⟩ := need_bd a c hc
  obtain ⟨y1, y2⟩ := need_bd b c hc
  have hsub : needOk b c = true → -9223372036854775808 ≤ c - needV b c := fun h => by have := need_in b c h; omega
  cases ha : needOk a c
  · go_enter Try.func21, Try.ntmps21
    go_wp2_with (go_at_call 18; refine (need_any _ _ _ hc hc').mono ?_; rintro e w' ⟨rfl, rfl⟩)
    go_ret
    exact ⟨by simp [meetsV, ha], rfl⟩
  · cases hb : needOk b c
    · go_enter Try.func21, Try.ntmps21
      go_wp2_with (go_at_call 18; refine (need_any _ _ _ hc hc').mono ?_; rintro e w' ⟨rfl, rfl⟩)
      go_ret
      exact ⟨by simp [meetsV, ha, hb], rfl⟩
    · have hs := hsub hb
      have hn := need_in b c hb
      go_enter Try.func21, Try.ntmps21
      go_wp2_with (go_at_call 18; refine (need_any _ _ _ hc hc').mono ?_; rintro e w' ⟨rfl, rfl⟩)
      go_ret
      exact ⟨by simp [meetsV, ha, hb], rfl⟩

theorem alive_any (w : World) : Calls Try.prog 20 #[] w fun e w' => e = .returned (.bool true) ∧ w = w' := by
  have e1 : needV 2 3 = 2 := by decide
  have e2 : needOk 2 3 = true := by decide
  have e3 : meetsV 2 2 4 = true := by decide
  have e4 : meetsV 1 3 3 = true := by decide
  have e5 : meetsV 1 1 2 = false := by decide
  go_enter Try.func20, Try.ntmps20
  go_wp2_with (first | (go_at_call 18; refine (need_any _ _ _ (by omega) (by omega)).mono ?_; rintro e w' ⟨rfl, rfl⟩) | (go_at_call 21; refine (meets_any _ _ _ _ (by omega) (by omega)).mono ?_; rintro e w' ⟨rfl, rfl⟩))
  go_ret
  exact ⟨rfl, rfl⟩

theorem quorumNeeds_any (l c : Int) (w : World) (hc : c ≤ 9223372036854775807) (hc' : -9223372036854775808 ≤ c) :
    Calls Try.prog 6 #[.int .i64 l, .int .i64 c] w fun e w' => e = .returned (.bool true) ∧ w = w' := by
  go_enter Try.func6, Try.ntmps6
  go_wp2_with (first | (go_at_call 18; refine (need_any _ _ _ hc hc').mono ?_; rintro e w' ⟨rfl, rfl⟩) | (go_at_call 19; refine (lawneed_any _ _ _ hc hc').mono ?_; rintro e w' ⟨rfl, rfl⟩) | (go_at_call 20; refine (alive_any _).mono ?_; rintro e w' ⟨rfl, rfl⟩))
  go_ret
  exact ⟨rfl, rfl⟩
end Go.Proofs.Ytigeieahhkoolaa.Quorum
