/- The walks of layer 43 (pick): the merge in place by Order's comparison. -/
import Derived.Test.YtehcndjpckolmaaPickStable
import Derived.Test.YtehcndjpckolmaaSymPlain
import Derived.BigRegion
namespace Go.Proofs.Ytehcndjpckolmaa.Pick
open Go.RowKit Go.Proofs.Ytehcndjpckolmaa.Ints Go.Proofs.Ytehcndjpckolmaa.Sort

abbrev vC (Bl Bn : Nat) : Value := .func (.func 90) #[] #[.pointer (some ⟨Bl, 0, none⟩), .pointer (some ⟨Bn, 0, none⟩)]

theorem St.at {W0 W : World} {g cap n N : Nat} {f : Nat → Int} {G : Nat → Value} (h : St W0 W g cap n f G N) (hn : n ≤ cap) {k : Nat} (hk : k < n) : ∃ x : Nat, x < N ∧ f k = (x : Int) ∧ W.cell? ⟨g, k, none⟩ = some (.int .i64 x) := by
  obtain ⟨h0, h1⟩ := h.val k hk
  have hc := h.row.cell hk (by omega)
  obtain ⟨x, hx⟩ := Int.eq_ofNat_of_zero_le h0
  rw [hx] at h1 hc
  exact ⟨x, by omega, hx, hc⟩

set_option maxRecDepth 100000 in
set_option maxHeartbeats 2000000 in
theorem swapRange_any (W0 : World) (g cap n a b k : Nat) (f : Nat → Int) (G : Nat → Value) (N : Nat) (Bl Bn : Nat) (hn : n ≤ cap) (hn2 : n ≤ 100000) (ha : a + k ≤ b) (hb : b + k ≤ n) (w : World) (hS : St W0 w g cap n f G N) :
    Calls Try.prog 139 #[.slice (some ⟨g, 0, none⟩) n cap, .int .i64 a, .int .i64 b, .int .i64 k, .func (.func 90) #[] #[.pointer (some ⟨Bl, 0, none⟩), .pointer (some ⟨Bn, 0, none⟩)]] w fun e w' =>
      e = .returned (.tuple #[]) ∧ St W0 w' g cap n (srF f a b k) G N := by
  have HS := Lib.hid hS
  clear hS
  go_enter Try.func139, Try.ntmps139
  go_wp2_with fail
  go_loopw [10] (fun xv wr => ∃ x : Nat, x ≤ k ∧ xv = .int .i64 x ∧ Hid (St W0 wr g cap n (srF f a b x) G N)) (fun xv _ => k - (intOf xv).toNat)
  case atStart => exact ⟨0, by omega, rfl, Lib.hid (by rw [sr_zero]; exact HS.out)⟩
  case round =>
    obtain ⟨x, hx, rfl, hS⟩ := hrel
    by_cases hlt : x < k
    · have c1 := hS.out.row.cell (k := a + x) (by omega) (by omega)
      have c2 := hS.out.row.cell (k := b + x) (by omega) (by omega)
      have f1 := World.rowIs.frozen hS.out.row (a + x)
      have f2 := World.rowIs.frozen hS.out.row (b + x)
      have hgl : g < wr.heap.size := World.rowIs.lt hS.out.row
      have hst := sr_step f (a := a) (b := b) (n := x) (by omega)
      have HST := Lib.hid hst
      obtain ⟨X, hX⟩ : ∃ X, X = srF f a b x (a + x) := ⟨_, rfl⟩
      obtain ⟨Y, hY⟩ : ∃ Y, Y = srF f a b x (b + x) := ⟨_, rfl⟩
      rw [← hX] at c1
      rw [← hY] at c2
      have HX := Lib.hid hX
      have HY := Lib.hid hY
      clear hX hY hst
      go_wp2_with fail
      go_region
      all_goals
        go_wp2_with fail
        go_roundw
        case rel => exact ⟨x + 1, by omega, by go_num, Lib.hid (by rw [← HST.out]; exact hS.out.swap (by omega) (by omega) HX.out HY.out)⟩
        case measure => simp [intOf]; omega
    · obtain rfl : x = k := by omega
      go_wp2_with fail
      go_end0
      exact ⟨rfl, hS.out⟩

set_option maxRecDepth 100000 in
set_option maxHeartbeats 2000000 in
theorem rotate_any (W0 : World) (g cap n a m b : Nat) (f : Nat → Int) (G : Nat → Value) (N : Nat) (Bl Bn : Nat) (hn : n ≤ cap) (hn2 : n ≤ 100000) (ha : a < m) (hm : m < b) (hb : b ≤ n) (w : World) (hS : St W0 w g cap n f G N) :
    Calls Try.prog 125 #[.slice (some ⟨g, 0, none⟩) n cap, .int .i64 a, .int .i64 m, .int .i64 b, .func (.func 90) #[] #[.pointer (some ⟨Bl, 0, none⟩), .pointer (some ⟨Bn, 0, none⟩)]] w fun e w' =>
      e = .returned (.tuple #[]) ∧ St W0 w' g cap n (rotF f a m b) G N := by
  have HS := Lib.hid hS
  have hrot := rotS_eq (m - a + (b - m)) f m (m - a) (b - m) (by omega) (by omega) (by omega) (Nat.le_refl _)
  rw [show m - (m - a) = a by omega, show m + (b - m) = b by omega] at hrot
  have HR := Lib.hid hrot
  clear hS hrot
  go_enter Try.func125, Try.ntmps125
  go_wp2_with fail
  go_loopw [10, 11] (fun iv jv wr => ∃ (i j : Nat) (f' : Nat → Int) (q : Nat), 0 < i ∧ 0 < j ∧ i ≤ m - a ∧ j ≤ b - m ∧ i + j ≤ q ∧ iv = .int .i64 i ∧ jv = .int .i64 j ∧ Hid (rotS q f' m i j = rotF f a m b) ∧ Hid (St W0 wr g cap n f' G N)) (fun iv jv _ => (intOf iv).toNat + (intOf jv).toNat)
  case atStart => exact ⟨m - a, b - m, f, m - a + (b - m), by omega, by omega, by omega, by omega, by omega, by congr 1; omega, by congr 1; omega, HR, HS⟩
  case round =>
    obtain ⟨i, j, f', q, hi, hj, him, hjm, hq, rfl, rfl, hrot, hS⟩ := hrel
    obtain ⟨q', rfl⟩ : ∃ q', q = q' + 1 := ⟨q - 1, by omega⟩
    have e0 : (m : Int) - i = ((m - i : Nat) : Int) := by omega
    by_cases hij : i = j
    · subst hij
      have hr := hrot.out
      unfold rotS at hr
      rw [if_pos rfl] at hr
      have HE := Lib.hid hr
      have hne : ((i : Int) != (i : Int)) = false := by simp
      clear hr
      go_wp2_with fail
      refine (swapRange_any W0 g cap n (m - i) m i f' G N Bl Bn hn hn2 (by omega) (by omega) _ hS.out).mono ?_
      rintro e w1 ⟨rfl, hS1⟩
      rw [HE.out] at hS1
      have HS1 := Lib.hid hS1
      clear hS1
      go_wp2_with fail
      go_end0
      exact ⟨rfl, HS1.out⟩
    · have hne : ((i : Int) != (j : Int)) = true := by rw [bne_iff_ne]; omega
      by_cases hlt : j < i
      · have hr := hrot.out
        unfold rotS at hr
        rw [if_neg hij, if_pos hlt] at hr
        have HE := Lib.hid hr
        clear hr
        go_wp2_with fail
        refine (swapRange_any W0 g cap n (m - i) m j f' G N Bl Bn hn hn2 (by omega) (by omega) _ hS.out).mono ?_
        rintro e w1 ⟨rfl, hS1⟩
        have HS1 := Lib.hid hS1
        clear hS1
        go_wp2_with fail
        go_roundw
        case rel => exact ⟨i - j, j, _, q', by omega, hj, by omega, hjm, by omega, by congr 1; omega, rfl, HE, HS1⟩
        case measure => simp [intOf]; omega
      · have hr := hrot.out
        unfold rotS at hr
        rw [if_neg hij, if_neg hlt] at hr
        have HE := Lib.hid hr
        have e1 : (m : Int) + j - i = ((m + j - i : Nat) : Int) := by omega
        clear hr
        go_wp2_with fail
        refine (swapRange_any W0 g cap n (m - i) (m + j - i) i f' G N Bl Bn hn hn2 (by omega) (by omega) _ hS.out).mono ?_
        rintro e w1 ⟨rfl, hS1⟩
        have HS1 := Lib.hid hS1
        clear hS1
        go_wp2_with fail
        go_roundw
        case rel => exact ⟨i, j - i, _, q', hi, by omega, him, by omega, by omega, rfl, by congr 1; omega, HE, HS1⟩
        case measure => simp [intOf]; omega
end Go.Proofs.Ytehcndjpckolmaa.Pick
