/- The walks of layer 48 (wait): draw, Bound, Of, the law's own functions, WaitBounds. -/
import Derived.Test.YtigeieahhkoolaaBase
import Derived.Test.YtigeieahhkoolaaWaitPlain
import Derived.Deep.QuietTactic
import Derived.BigQuiet
namespace Go.Proofs.Ytigeieahhkoolaa.Wait
open Go.RowKit

theorem draw_any (s t : Int) (w : World) (_s0 : 0 ≤ s) (_s1 : s ≤ 4294967295) (_t0 : 0 ≤ t) (_t1 : t ≤ 1073741824) :
    Calls Try.prog 40 #[.int .u32 s, .int .i64 t] w fun e w' => e = .returned (.int .u32 (drawF s t)) ∧ w = w' := by
  go_enter Try.func40, Try.ntmps40
  go_wp2
  go_ret
  exact ⟨rfl, rfl⟩
theorem drawn_any (s t : Int) (w : World) (_s0 : 0 ≤ s) (_s1 : s ≤ 4294967295) (_t0 : 0 ≤ t) (_t1 : t ≤ 1073741824) :
    Calls Try.prog 41 #[.int .u32 s, .int .i64 t] w fun e w' => e = .returned (.int .u32 (drawF s t)) ∧ w = w' := by
  go_enter Try.func41, Try.ntmps41
  go_wp2
  go_ret
  exact ⟨rfl, rfl⟩

theorem cut_any (n l h : Int) (w : World) :
    Calls Try.prog 29 #[.int .i64 n, .int .i64 l, .int .i64 h] w fun e w' => e = .returned (.int .i64 (min (max n l) h)) ∧ w = w' := by
  go_enter Try.func29, Try.ntmps29
  go_wp2
  go_ret
  exact ⟨rfl, rfl⟩

set_option maxHeartbeats 400000 in
theorem bound_any (f m s t : Int) (w : World) :
    Calls Try.prog 23 #[.agg #[.int .i64 f, .int .i64 m, .int .u32 s], .int .i64 t] w fun e w' => e = .returned (.int .i64 (boundF f m t)) ∧ Below w.heap.size w w' := by
  have hl := lo_bd f
  have hm := lo_bd m
  obtain ⟨n0, hn0⟩ : ∃ n, n = lo f := ⟨_, rfl⟩
  obtain ⟨top, htop⟩ : ∃ n, n = lo m := ⟨_, rfl⟩
  obtain ⟨K, hK⟩ : ∃ K : Nat, K = (min (max t 0) 32).toNat := ⟨_, rfl⟩
  have e1 : min (max f 1) 1073741824 = n0 := hn0.symm
  have e2 : min (max m 1) 1073741824 = top := htop.symm
  have e3 : min (max t 0) 32 = (K : Int) := by omega
  have hfin : boundF f m t = min (dbl K n0 top) top := by rw [boundF_32, ← hn0, ← htop, ← hK]
  have HF := Lib.hid hfin
  rw [← hn0] at hl
  rw [← htop] at hm
  have hK32 : K ≤ 32 := by omega
  clear hfin hn0 htop hK
  go_enter Try.func23, Try.ntmps23
  go_wp2
  go_loop [5, 18] (fun nv iv => ∃ k : Nat, k ≤ K ∧ iv = .int .i64 k ∧ nv = .int .i64 (dbl k n0 top)) (fun _ iv => K - (intOf iv).toNat)
  case atStart => exact ⟨0, Nat.zero_le _, rfl, rfl⟩
  case round =>
    obtain ⟨k, hk, rfl, rfl⟩ := hrel
    have hd := dbl_bd k n0 top hl.1 hl.2 hm.2
    have hs := dbl_step k n0 top
    have ht := dbl_stay k (K - k) n0 top
    obtain ⟨d, hdd⟩ : ∃ d, d = dbl k n0 top := ⟨_, rfl⟩
    rw [← hdd] at hd hs ht ⊢
    have HS := Lib.hid hs
    have HT := Lib.hid ht
    clear hs ht
    have HD := Lib.hid hdd
    clear hdd
    by_cases hlt : k < K
    · by_cases htop : top ≤ d
      · go_wp2
        go_ret
        exact ⟨ret_int (by rw [HF.out]; have := HT.out htop; rw [show k + (K - k) = K by omega] at this; omega), (Below.refl _ _).alloc (Nat.le_refl _) _⟩
      · go_wp2
        go_round
        case rel => exact ⟨k + 1, by omega, by go_num, by rw [HS.out (by omega)]; go_num⟩
        case measure => simp [intOf]; omega
    · go_wp2
      go_ret
      obtain rfl : k = K := by omega
      exact ⟨ret_int (by rw [HF.out, HD.out]), (Below.refl _ _).alloc (Nat.le_refl _) _⟩

set_option maxHeartbeats 400000 in
theorem lawbound_any (f m s t : Int) (w : World) :
    Calls Try.prog 25 #[.agg #[.int .i64 f, .int .i64 m, .int .u32 s], .int .i64 t] w fun e w' => e = .returned (.int .i64 (boundF f m t)) ∧ Below w.heap.size w w' := by
  have hl := lo_bd f
  have hm := lo_bd m
  obtain ⟨n0, hn0⟩ : ∃ n, n = lo f := ⟨_, rfl⟩
  obtain ⟨top, htop⟩ : ∃ n, n = lo m := ⟨_, rfl⟩
  obtain ⟨K, hK⟩ : ∃ K : Nat, K = (min (max t 0) 40).toNat := ⟨_, rfl⟩
  have e1 : min (max f 1) 1073741824 = n0 := hn0.symm
  have e2 : min (max m 1) 1073741824 = top := htop.symm
  have e3 : min (max t 0) 40 = (K : Int) := by omega
  have hfin : boundF f m t = min (dbl K n0 top) top := by rw [boundF, ← hn0, ← htop, ← hK]
  have HF := Lib.hid hfin
  rw [← hn0] at hl
  rw [← htop] at hm
  have hK32 : K ≤ 40 := by omega
  clear hfin hn0 htop hK
  go_enter Try.func25, Try.ntmps25
  go_wp2_with fail
  go_quiet ((go_at_call 29; exact quiet_left (cut_any _ _ _ _)))
  rw [e1, e2]
  go_wp2_with fail
  go_loop [5, 7] (fun nv iv => ∃ k : Nat, k ≤ K ∧ iv = .int .i64 k ∧ nv = .int .i64 (dbl k n0 top)) (fun _ iv => K - (intOf iv).toNat)
  case atStart => exact ⟨0, Nat.zero_le _, rfl, rfl⟩
  case round =>
    obtain ⟨k, hk, rfl, rfl⟩ := hrel
    have hd := dbl_bd k n0 top hl.1 hl.2 hm.2
    have hs := dbl_step k n0 top
    have ht := dbl_stay k (K - k) n0 top
    obtain ⟨d, hdd⟩ : ∃ d, d = dbl k n0 top := ⟨_, rfl⟩
    rw [← hdd] at hd hs ht ⊢
    have HS := Lib.hid hs
    have HT := Lib.hid ht
    clear hs ht
    have HD := Lib.hid hdd
    clear hdd
    by_cases hlt : k < K
    · by_cases htop : top ≤ d
      · go_wp2_with (go_at_call 29; refine (cut_any _ _ _ _).mono ?_; rintro e w' ⟨rfl, rfl⟩)
        go_ret
        exact ⟨ret_int (by rw [HF.out]; have := HT.out htop; rw [show k + (K - k) = K by omega] at this; omega), below_drewN ((Below.refl _ _).alloc (Nat.le_refl _) _) _⟩
      · go_wp2_with (go_at_call 29; refine (cut_any _ _ _ _).mono ?_; rintro e w' ⟨rfl, rfl⟩)
        go_round
        case rel => exact ⟨k + 1, by omega, by go_num, by rw [HS.out (by omega)]⟩
        case measure => simp [intOf]; omega
    · go_wp2_with (go_at_call 29; refine (cut_any _ _ _ _).mono ?_; rintro e w' ⟨rfl, rfl⟩)
      go_ret
      obtain rfl : k = K := by omega
      exact ⟨ret_int (by rw [HF.out, HD.out]), below_drewN ((Below.refl _ _).alloc (Nat.le_refl _) _) _⟩

theorem of_any (f m s t : Int) (w : World) (_s0 : 0 ≤ s) (_s1 : s ≤ 4294967295) :
    Calls Try.prog 24 #[.agg #[.int .i64 f, .int .i64 m, .int .u32 s], .int .i64 t] w fun e w' => e = .returned (.int .i64 (ofF f m s t)) ∧ Below w.heap.size w w' := by
  have hfin : ofF f m s t = (boundF f m t + 1) / 2 + drawF s (min (max t 0) 1073741824) % (boundF f m t - (boundF f m t + 1) / 2 + 1) := rfl
  have HF := Lib.hid hfin
  have hb := boundF_bd f m t
  have hd := drawF_bd s (min (max t 0) 1073741824)
  go_enter Try.func24, Try.ntmps24
  go_wp2_with fail
  refine (bound_any _ _ _ _ _).mono ?_
  rintro e w' ⟨rfl, hb1⟩
  obtain ⟨hc, hf⟩ := bcell hb1
  go_wp2_with fail
  refine (draw_any _ _ _ (by omega) (by omega) (by omega) (by omega)).mono ?_
  rintro e w' ⟨rfl, rfl⟩
  go_wp2_with fail
  go_ret
  exact ⟨ret_int (by rw [← HF.out]; have := ofF_bd f m s t; exact IntWalk.wrap64_in _ ⟨by omega, by omega⟩), ((Below.refl _ _).alloc (Nat.le_refl _) _).trans (hb1.mono (by simp))⟩

theorem lawof_any (f m s t : Int) (w : World) (_s0 : 0 ≤ s) (_s1 : s ≤ 4294967295) :
    Calls Try.prog 26 #[.agg #[.int .i64 f, .int .i64 m, .int .u32 s], .int .i64 t] w fun e w' => e = .returned (.int .i64 (ofF f m s t)) ∧ Below w.heap.size w w' := by
  have hfin : ofF f m s t = (boundF f m t + 1) / 2 + drawF s (min (max t 0) 1073741824) % (boundF f m t - (boundF f m t + 1) / 2 + 1) := rfl
  have HF := Lib.hid hfin
  have hb := boundF_bd f m t
  have hd := drawF_bd s (min (max t 0) 1073741824)
  clear hfin
  go_enter Try.func26, Try.ntmps26
  go_wp2_with fail
  refine (lawbound_any _ _ _ _ _).mono ?_
  rintro e w' ⟨rfl, hb1⟩
  obtain ⟨hc, hf⟩ := bcell hb1
  obtain ⟨b, hbb⟩ : ∃ b, b = boundF f m t := ⟨_, rfl⟩
  rw [← hbb] at hb HF ⊢
  obtain ⟨d, hdd⟩ : ∃ d, d = drawF s (min (max t 0) 1073741824) := ⟨_, rfl⟩
  rw [← hdd] at hd HF
  have g0 : 0 ≤ b - (b - b / 2) + 1 := by omega
  have g1 : b - (b - b / 2) + 1 ≤ 9223372036854775807 := by omega
  have g2 : 0 ≤ d % (b - (b - b / 2) + 1) := Int.emod_nonneg _ (by omega)
  have g3 : d % (b - (b - b / 2) + 1) < b - (b - b / 2) + 1 := Int.emod_lt_of_pos _ (by omega)
  go_wp2_with fail
  go_quiet ((first | (go_at_call 29; exact quiet_left (cut_any _ _ _ _)) | (go_at_call 41; exact quiet_left (drawn_any _ _ _ (by omega) (by omega) (by omega) (by omega)))))
  go_wp2
  go_ret
  refine ⟨ret_int ?_, below_drewN (((Below.refl _ _).alloc (Nat.le_refl _) _).trans (hb1.mono (by simp))) _⟩
  rw [← hbb, ← hdd, HF.out, show (b + 1) / 2 = b - b / 2 from by omega]
  exact IntWalk.wrap64_in _ ⟨by omega, by omega⟩

theorem alive_any (w : World) : Calls Try.prog 27 #[] w fun e w' => e = .returned (.bool true) ∧ Below w.heap.size w w' := by
  have e1 : boundF 2 9 1 = 4 := by decide +kernel
  have e2 : boundF 2 9 5 = 9 := by decide +kernel
  have e3 : 1 ≤ ofF 2 9 0 0 := by decide +kernel
  have e4 : ofF 2 9 0 0 ≤ 2 := by decide +kernel
  go_enter Try.func27, Try.ntmps27
  go_wp2_with fail
  refine (bound_any _ _ _ _ _).mono ?_
  rintro e w1 ⟨rfl, hb1⟩
  obtain ⟨hc1, hf1⟩ := bcell hb1
  have hs1 : w.heap.size + 1 ≤ w1.heap.size := by have := hb1.size; simpa using this
  go_wp2_with fail
  refine (bound_any _ _ _ _ _).mono ?_
  rintro e w2 ⟨rfl, hb2⟩
  have hb2' := hb1.trans (hb2.mono hb1.size)
  obtain ⟨hc2, hf2⟩ := bcell hb2'
  clear hc1 hf1
  have hs2 : w.heap.size + 1 ≤ w2.heap.size := by have := hb2'.size; simpa using this
  go_wp2_with fail
  refine (of_any _ _ _ _ _ (by omega) (by omega)).mono ?_
  rintro e w3 ⟨rfl, hb3⟩
  have hb3' := hb2'.trans (hb3.mono hb2'.size)
  obtain ⟨hc3, hf3⟩ := bcell hb3'
  clear hc2 hf2
  have hs3 : w.heap.size + 1 ≤ w3.heap.size := by have := hb3'.size; simpa using this
  go_wp2_with fail
  refine (of_any _ _ _ _ _ (by omega) (by omega)).mono ?_
  rintro e w4 ⟨rfl, hb4⟩
  have hb4' := hb3'.trans (hb4.mono hb3'.size)
  go_wp2_with fail
  go_ret
  exact ⟨rfl, ((Below.refl _ _).alloc (Nat.le_refl _) _).trans (hb4'.mono (by simp))⟩

set_option maxHeartbeats 400000 in
theorem waitBounds_any (f m s t : Int) (w : World) (_s0 : 0 ≤ s) (_s1 : s ≤ 4294967295) :
    Calls Try.prog 8 #[.agg #[.int .i64 f, .int .i64 m, .int .u32 s], .int .i64 t] w fun e w' => e = .returned (.bool true) ∧ Below w.heap.size w w' := by
  have hb := boundF_bd f m t
  obtain ⟨h1, h2, h3⟩ := ofF_bd f m s t
  go_enter Try.func8, Try.ntmps8
  go_upto_region 1 with fail
  go_cut [5, 6] (fun a b wr => a = .int .i64 (boundF f m t) ∧ b = .int .i64 (ofF f m s t) ∧ Below (w.heap.size + 1) (w.alloc (.cells #[.int .i64 f, .int .i64 m, .int .u32 s] 46)) wr)
  case first =>
    go_region_with (first | (go_at_call 23; refine (bound_any _ _ _ _ _).mono ?_; rintro e w1 ⟨rfl, hb1⟩; obtain ⟨hc1, hf1⟩ := bcell hb1; have hs1 := hb1.size) | (go_at_call 24; refine (of_any _ _ _ _ _ (by omega) (by omega)).mono ?_; rintro e w2 ⟨rfl, hb2⟩; obtain ⟨hc2, hf2⟩ := bcell hb2; have hs2 := hb2.size))
    all_goals (go_wp2_with fail; go_meet)
    all_goals exact ⟨rfl, rfl, below_then (below_then (Below.refl _ _).drew (by simp) hb1) (by simp) hb2⟩
  case rest =>
    obtain ⟨rfl, rfl, hb1⟩ := hcut
    obtain ⟨hc1, hf1⟩ := bcell (hb1.mono (by simp))
    have hs1 : w.heap.size + 1 ≤ wc.heap.size := by have := hb1.size; simpa using this
    go_wp2_with fail
    refine (lawbound_any _ _ _ _ _).mono ?_
    rintro e w2 ⟨rfl, hb2⟩
    have hb2' := below_then hb1 (by simp) hb2
    clear hc1 hf1
    obtain ⟨hc2, hf2⟩ := bcell (hb2'.mono (by simp))
    have hs2 : w.heap.size + 1 ≤ w2.heap.size := by have := hb2'.size; simpa using this
    go_wp2_with fail
    refine (lawof_any _ _ _ _ _ (by omega) (by omega)).mono ?_
    rintro e w3 ⟨rfl, hb3⟩
    have hb3' := below_then hb2' (by simp) hb3
    clear hc2 hf2
    go_wp2_with fail
    refine (alive_any _).mono ?_
    rintro e w4 ⟨rfl, hb4⟩
    have hb4' := below_then hb3' (by simp) hb4
    go_wp2_with fail
    go_ret
    exact ⟨rfl, ((Below.refl _ _).alloc (Nat.le_refl _) _).trans (hb4'.mono (by omega))⟩
end Go.Proofs.Ytigeieahhkoolaa.Wait
