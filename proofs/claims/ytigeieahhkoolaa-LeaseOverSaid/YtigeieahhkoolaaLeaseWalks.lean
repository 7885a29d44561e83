/- The walks of layer 23 (lease): Ready, the laws LeaseReady and LeaseOver. -/
import Derived.Test.YtigeieahhkoolaaProg
import Derived.WalkKit
import Derived.WalkSpells
import Derived.WalkLawsBesides
namespace Go.Proofs.Ytigeieahhkoolaa.Lease
open Go.RowKit

theorem alive_any (w : World) : Calls Try.prog 16 #[] w fun e w' => e = .returned (.bool true) ∧ Below w.heap.size w w' := by
  go_enter Try.func16, Try.ntmps16
  go_wp2
  go_end0
  go_wp2
  go_ret
  exact ⟨rfl, (Below.refl _ _).alloc (Nat.le_refl _) _⟩

theorem leaseReady_any (a b : Int) (w : World) :
    Calls Try.prog 4 #[.int .i64 a, .int .i64 b] w fun e w' => e = .returned (.bool true) ∧ Below w.heap.size w w' := by
  by_cases h : b ≤ a
  · by_cases h2 : 20 ≤ IntKind.u64.wrap (IntKind.u64.wrap a - IntKind.u64.wrap b)
    all_goals
      go_enter Try.func4, Try.ntmps4
      go_wp2_with (first | (go_at_call 16; refine (alive_any _).mono ?_; rintro e w' ⟨rfl, hb⟩) | go_in)
      go_ret
      exact ⟨rfl, by assumption⟩
  · go_enter Try.func4, Try.ntmps4
    go_wp2_with (first | (go_at_call 16; refine (alive_any _).mono ?_; rintro e w' ⟨rfl, hb⟩) | go_in)
    go_ret
    exact ⟨rfl, by assumption⟩

set_option maxHeartbeats 1000000 in
theorem leaseOver_any (g l t n : Int) (w : World) (_h1 : -9223372036854775808 ≤ g) (_h2 : g ≤ 9223372036854775807) (_h3 : -9223372036854775808 ≤ l) (_h4 : l ≤ 9223372036854775807)
    (_h5 : -9223372036854775808 ≤ t) (_h6 : t ≤ 9223372036854775807) (_h7 : -9223372036854775808 ≤ n) (_h8 : n ≤ 9223372036854775807) :
    Calls Try.prog 5 #[.agg #[.int .i64 g, .int .i64 l, .int .i64 t, .int .i64 n]] w fun e w' => e = .returned (.bool true) ∧ Below w.heap.size w w' := by
  cases hin : (decide (g < 0) || decide (274877906944 < g) || decide (l < 0) || decide (274877906944 < l) || decide (t < 0) || decide (274877906944 < t) || decide (n < 0) || decide (274877906944 < n) || decide (2 * n < t - 4))
  · simp at hin
    obtain ⟨⟨⟨⟨⟨⟨⟨⟨g1, g2⟩, l1⟩, l2⟩, t1⟩, t2⟩, n1⟩, n2⟩, tn⟩ := hin
    by_cases ht : 20 ≤ t
    all_goals
      go_enter Try.func5, Try.ntmps5
      go_wp2_with (first | (go_at_call 16; refine (alive_any _).mono ?_; rintro e w' ⟨rfl, hb⟩) | go_in)
      go_end0
      go_wp2_with (first | (go_at_call 16; refine (alive_any _).mono ?_; rintro e w' ⟨rfl, hb⟩) | go_in)
      go_ret
      exact ⟨by simp <;> omega, (((Below.refl _ _).alloc (Nat.le_refl _) _).alloc (by simp) _).trans (hb.mono (by simp; omega))⟩
  · go_enter Try.func5, Try.ntmps5
    go_wp2
    all_goals
      go_ret
      exact ⟨rfl, (Below.refl _ _).alloc (Nat.le_refl _) _⟩
end Go.Proofs.Ytigeieahhkoolaa.Lease
