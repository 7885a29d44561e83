/- The walks of layer 43 (pick): Due, Score, the law's due, score. -/
import Derived.Test.YtehcndjpckolmaaInts
import Derived.Test.YtehcndjpckolmaaPickPlain
namespace Go.Proofs.Ytehcndjpckolmaa.Pick
open Go.RowKit Go.Proofs.Ytehcndjpckolmaa.Ints

abbrev vN (x : Need) : Value := .agg #[.int .i64 x.last, .int .i64 x.waste, .int .i64 x.waiting]
abbrev enN (x : Need) : List Value := [.int .i64 x.last, .int .i64 x.waste, .int .i64 x.waiting]
theorem enN_len (x : Need) : (enN x).length = 3 := rfl
abbrev NRow (w : World) (v : Value) (l : List Need) : Prop := Lst 3 enN w v l

theorem cut_any (n l h : Int) (w : World) :
    Calls Try.prog 32 #[.int .i64 n, .int .i64 l, .int .i64 h] w fun e w' => e = .returned (.int .i64 (min (max n l) h)) ∧ w = w' := by
  go_enter Try.func32, Try.ntmps32
  go_wp2
  go_ret
  exact ⟨rfl, rfl⟩

theorem due_any (a b c now : Int) (w : World) :
    Calls Try.prog 21 #[.agg #[.int .i64 a, .int .i64 b, .int .i64 c], .int .i64 now] w fun e w' => e = .returned (.int .i64 (dueF ⟨a, b, c⟩ now)) ∧ Below w.heap.size w w' := by
  have h1 : 0 ≤ min (max now 0) 1099511627776 := by omega
  have h2 : min (max now 0) 1099511627776 ≤ 1099511627776 := by omega
  have h3 : 0 ≤ min (max a 0) 1099511627776 := by omega
  have h4 : min (max a 0) 1099511627776 ≤ 1099511627776 := by omega
  go_enter Try.func21, Try.ntmps21
  go_wp2
  go_quiet (fail)
  go_wp2
  go_ret
  exact ⟨rfl, below_drewN ((Below.refl _ _).alloc (Nat.le_refl _) _) _⟩

theorem score_sum (d b c : Int) (d0 : 0 ≤ d) (d1 : d ≤ 1099511627776) : wrap64 (wrap64 (d + 10 * min (max c 0) 100) + min (max b 0) 100 / 10) = d + 10 * min (max c 0) 100 + min (max b 0) 100 / 10 := by
  rw [IntWalk.wrap64_in (d + 10 * min (max c 0) 100) ⟨by omega, by omega⟩]
  exact IntWalk.wrap64_in _ ⟨by omega, by omega⟩
theorem score_any (a b c now : Int) (w : World) :
    Calls Try.prog 23 #[.agg #[.int .i64 a, .int .i64 b, .int .i64 c], .int .i64 now] w fun e w' => e = .returned (.int .i64 (scoreF ⟨a, b, c⟩ now)) ∧ Below w.heap.size w w' := by
  obtain ⟨d0, d1⟩ := dueF_bd ⟨a, b, c⟩ now
  have HF := Lib.hid (show scoreF ⟨a, b, c⟩ now = dueF ⟨a, b, c⟩ now + 10 * min (max c 0) 100 + min (max b 0) 100 / 10 from rfl)
  obtain ⟨d, hd⟩ : ∃ d, d = dueF ⟨a, b, c⟩ now := ⟨_, rfl⟩
  rw [← hd] at d0 d1 HF
  have HD := Lib.hid hd
  clear hd
  go_enter Try.func23, Try.ntmps23
  go_wp2
  refine wp_region_calm (by kernel_rfl) (by kernel_rfl) ?_
  repeat (go_big_quiet_step (first | (go_at_call 21; exact calm (due_any _ _ _ _ _))))
  refine wpQuiet_nil ?_
  rintro _ ⟨y, rfl⟩
  go_wp2
  go_ret
  exact ⟨ret_int (by rw [← HD.out]; exact (score_sum d b c d0 d1).trans HF.out.symm), below_then ((Below.refl _ _).alloc (Nat.le_refl _) _) (Nat.le_refl _) y.below⟩

theorem lawdue_any (a b c now : Int) (w : World) :
    Calls Try.prog 22 #[.agg #[.int .i64 a, .int .i64 b, .int .i64 c], .int .i64 now] w fun e w' => e = .returned (.int .i64 (dueF ⟨a, b, c⟩ now)) ∧ Below w.heap.size w w' := by
  go_enter Try.func22, Try.ntmps22
  go_wp2
  refine wp_region_calm (by kernel_rfl) (by kernel_rfl) ?_
  repeat (go_big_quiet_step (first | (go_at_call 32; exact calm_same (cut_any _ _ _ _))))
  refine wpQuiet_nil ?_
  rintro _ ⟨y, rfl⟩
  go_wp2
  go_ret
  exact ⟨rfl, below_then ((Below.refl _ _).alloc (Nat.le_refl _) _) (Nat.le_refl _) y.below⟩

theorem lawscore_any (a b c now : Int) (w : World) :
    Calls Try.prog 24 #[.agg #[.int .i64 a, .int .i64 b, .int .i64 c], .int .i64 now] w fun e w' => e = .returned (.int .i64 (scoreF ⟨a, b, c⟩ now)) ∧ Below w.heap.size w w' := by
  obtain ⟨d0, d1⟩ := dueF_bd ⟨a, b, c⟩ now
  have HF := Lib.hid (show scoreF ⟨a, b, c⟩ now = dueF ⟨a, b, c⟩ now + 10 * min (max c 0) 100 + min (max b 0) 100 / 10 from rfl)
  obtain ⟨d, hd⟩ : ∃ d, d = dueF ⟨a, b, c⟩ now := ⟨_, rfl⟩
  rw [← hd] at d0 d1 HF
  have HD := Lib.hid hd
  clear hd
  go_enter Try.func24, Try.ntmps24
  go_wp2
  refine wp_region_calm (by kernel_rfl) (by kernel_rfl) ?_
  repeat (go_big_quiet_step (first | (go_at_call 22; exact calm (lawdue_any _ _ _ _ _)) | (go_at_call 32; exact calm_same (cut_any _ _ _ _))))
  refine wpQuiet_nil ?_
  rintro _ ⟨y, rfl⟩
  go_wp2
  go_ret
  exact ⟨ret_int (by rw [← HD.out]; exact (score_sum d b c d0 d1).trans HF.out.symm), below_then ((Below.refl _ _).alloc (Nat.le_refl _) _) (Nat.le_refl _) y.below⟩
end Go.Proofs.Ytehcndjpckolmaa.Pick
