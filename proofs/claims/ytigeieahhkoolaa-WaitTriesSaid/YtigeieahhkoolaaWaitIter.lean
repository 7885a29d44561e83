/- The walks of layer 48 (wait): the iterator over tries. -/
import Derived.Test.YtigeieahhkoolaaRange
import Derived.Test.YtigeieahhkoolaaWaitWalks
import Derived.Test.YtigeieahhkoolaaWaitTryPlain
namespace Go.Proofs.Ytigeieahhkoolaa.Wait
open Go.RowKit Go.Shelf

attribute [local go_sem] Oper.semAt_some

set_option maxHeartbeats 1000000 in
theorem all_in (n : Nat) (f m s a b : Int) (w : World) :
    CallsIn Fence.wide n Try.prog 42 #[.agg #[.int .i64 f, .int .i64 m, .int .u32 s], .int .i64 a, .int .i64 b] w fun e w' =>
      e = .returned (.func (.func 48) #[] #[.pointer (some ⟨w.heap.size + 1, 0, none⟩), .pointer (some ⟨w.heap.size + 2, 0, none⟩), .pointer (some ⟨w.heap.size, 0, none⟩)]) ∧
      w' = ((w.alloc (.cells #[.int .i64 f, .int .i64 m, .int .u32 s] 46)).alloc (.cells #[.int .i64 a] 3)).alloc (.cells #[.int .i64 b] 3) := by
  refine callsIn_of_wp Try.func42 rfl trivial ?_ rfl
  simp only [Try.ntmps42, List.size_toArray, List.length_cons, List.length_nil, Nat.reduceAdd, Nat.reduceSub, Array.replicate_succ, Array.replicate_zero, List.push_toArray, List.append_toArray, List.nil_append, List.cons_append]
  gi_wp2
  go_ret
  exact ⟨rfl, rfl⟩

set_option maxRecDepth 100000 in
set_option maxHeartbeats 2000000 in
theorem all1_in (n : Nat) (hn : 1 ≤ n) (l B0 B1 B2 : Nat) (f m s a b : Int) (_s0 : 0 ≤ s) (_s1 : s ≤ 4294967295) (T : Nat) (hT : Tries f m s a b T) (J Jx : List (Nat × Int) → World → Prop)
    (hY : ∀ pre x W, J pre W → pre.length < T → YieldAt Fence.wide (n - 1) Try.prog l #[.int .i64 (x.1 : Int), .int .i64 x.2] W fun e W' =>
      (e = .returned (.bool true) ∧ J (pre ++ [x]) W' ∧ Keep B0 W W') ∨ (e = .returned (.bool false) ∧ Jx (pre ++ [x]) W'))
    (W : World) (hW : B0 < W.heap.size) (hJab : AbidesFrom W.heap.size J) (c0 : W.cell? ⟨B0, 0, none⟩ = some (.int .i64 f)) (c1 : W.cell? ⟨B0, 1, none⟩ = some (.int .i64 m)) (c2 : W.cell? ⟨B0, 2, none⟩ = some (.int .u32 s))
    (ca : W.cell? ⟨B1, 0, none⟩ = some (.int .i64 a)) (cb : W.cell? ⟨B2, 0, none⟩ = some (.int .i64 b)) (hJ0 : J [] W) :
    CallsIn Fence.wide n Try.prog 48 #[.func (.yield l) #[] #[], .pointer (some ⟨B1, 0, none⟩), .pointer (some ⟨B2, 0, none⟩), .pointer (some ⟨B0, 0, none⟩)] W fun e W' => (∃ v, e = .returned v) ∧
      ((∃ ys, ys = pr f m s a T ∧ J ys W') ∨ (∃ pre, (∃ k, k ≤ T ∧ pre = pr f m s a k) ∧ Jx pre W')) := by
  refine callsIn_of_wp Try.func48 rfl trivial ?_ rfl
  simp only [Try.ntmps48, List.size_toArray, List.length_cons, List.length_nil, Nat.reduceAdd, Nat.reduceSub, Array.replicate_succ, Array.replicate_zero, List.push_toArray, List.append_toArray, List.nil_append, List.cons_append]
  gi_wp2
  gi_region
  gi_wp2
  gi_loopw [5, 7] (fun fv tv wr => ∃ k : Nat, k ≤ T ∧ fv = .int .i64 (atF f m s a k) ∧ tv = .int .i64 k ∧ J (pr f m s a k) wr ∧ Keep B0 W wr) (fun _ tv _ => T - (intOf tv).toNat)
  case atStart => exact ⟨0, Nat.zero_le _, rfl, rfl, abides_below hJab hJ0 (Below.refl _ _).drew, Keep.below (Below.refl _ _).drew hW⟩
  case round =>
    obtain ⟨k, hk, rfl, rfl, hJk, hbl⟩ := hrel
    have hbd := hT.bd hk
    have hof := ofF_bd f m s k
    have hob := boundF_bd f m k
    by_cases hlt : k < T
    · have htk : atF f m s a k < min (max b 0) 1099511627776 := hT.1 k hlt
      have hst : atF f m s a (k + 1) = atF f m s a k + ofF f m s k := rfl
      have HST := Lib.hid hst
      clear hst
      obtain ⟨fn, tmps, assign, body, hy, hR⟩ := hY _ (k, atF f m s a k) wr hJk (by rw [pr_len]; exact hlt)
      dsimp only at hy
      obtain ⟨at0, hat⟩ : ∃ x, x = atF f m s a k := ⟨_, rfl⟩
      rw [← hat] at hbd htk HST hy hR ⊢
      have HAT := Lib.hid hat
      clear hat
      obtain ⟨hbd1, hbd2, hbd3⟩ := hbd
      obtain ⟨hof1, hof2, hof3⟩ := hof
      gi_wp2
      refine hR.mono ?_
      rintro e W3 (⟨rfl, hJ3, hk3⟩ | ⟨rfl, hJx3⟩)
      · have hbl3 := hbl.trans hk3
        have d0 := (hbl3.2 0).trans c0
        have d1 := (hbl3.2 1).trans c1
        have d2 := (hbl3.2 2).trans c2
        gi_wp2_with (refine ⟨trivial, ?_⟩; gi_at_call 24; refine (callsIn_wide.2 (of_any f m s _ _ (by omega) (by omega))).mono ?_; rintro e w' ⟨rfl, hb4⟩)
        go_roundw
        case rel => exact ⟨k + 1, by omega, by rw [HST.out], by go_num, by rw [pr_succ, ← HAT.out]; exact abides_below hJab hJ3 hb4, hbl3.trans (Keep.below hb4 (by have := hbl3.1; omega))⟩
        case measure => simp [intOf]; omega
      · gi_wp2
        refine bodyPost_ret (results_none rfl _ _ _) rfl ?_
        exact ⟨⟨_, rfl⟩, .inr ⟨_, ⟨k + 1, by omega, (pr_succ _ _ _ _ _).symm⟩, by rw [← HAT.out]; exact hJx3⟩⟩
    · obtain rfl : k = T := by omega
      have htk : min (max b 0) 1099511627776 ≤ atF f m s a k := hT.2
      gi_wp2
      go_end0
      exact ⟨⟨_, rfl⟩, .inl ⟨_, rfl, hJk⟩⟩

theorem all_stops (n : Nat) (hn : 1 ≤ n) (B0 B1 B2 : Nat) (f m s a b : Int) (_s0 : 0 ≤ s) (_s1 : s ≤ 4294967295) (T : Nat) (hT : Tries f m s a b T) (w : World) (h0 : B0 < w.heap.size) (h1 : B1 < w.heap.size) (h2 : B2 < w.heap.size)
    (c0 : w.cell? ⟨B0, 0, none⟩ = some (.int .i64 f)) (c1 : w.cell? ⟨B0, 1, none⟩ = some (.int .i64 m)) (c2 : w.cell? ⟨B0, 2, none⟩ = some (.int .u32 s))
    (ca : w.cell? ⟨B1, 0, none⟩ = some (.int .i64 a)) (cb : w.cell? ⟨B2, 0, none⟩ = some (.int .i64 b)) :
    SeqStopsK Fence.wide n Try.prog 48 #[.pointer (some ⟨B1, 0, none⟩), .pointer (some ⟨B2, 0, none⟩), .pointer (some ⟨B0, 0, none⟩)] (fun x : Nat × Int => #[.int .i64 (x.1 : Int), .int .i64 x.2]) (Keep B0)
      (fun ys => ys = pr f m s a T) (fun pre => ∃ k, k ≤ T ∧ pre = pr f m s a k) T w := fun l J Jx W hW hJ _ hY hJ0 =>
  all1_in n hn l B0 B1 B2 f m s a b _s0 _s1 T hT J Jx hY W (Nat.lt_of_lt_of_le h0 hW.size) hJ ((hW.cell (p := ⟨B0, 0, none⟩) h0).trans c0) ((hW.cell (p := ⟨B0, 1, none⟩) h0).trans c1) ((hW.cell (p := ⟨B0, 2, none⟩) h0).trans c2)
    ((hW.cell (p := ⟨B1, 0, none⟩) h1).trans ca) ((hW.cell (p := ⟨B2, 0, none⟩) h2).trans cb) hJ0
end Go.Proofs.Ytigeieahhkoolaa.Wait
