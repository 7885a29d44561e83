/- The walk of the law QuorumMeets: ones, shares (all choices are tried), the law. -/
import Derived.Test.YtigeieahhkoolaaQuorumWalks
namespace Go.Proofs.Ytigeieahhkoolaa.Quorum
open Go.RowKit

theorem ret_int {k : IntKind} {a b : Int} (h : a = b) : Ending.returned (.int k a) = .returned (.int k b) := by rw [h]
theorem onesF_half (m : Nat) (h : m < 64) : onesF 6 m = m % 2 + onesF 6 (m / 2) := by
  rw [onesF_step 5 (m / 2) (by omega)]; rfl
theorem onesF_le (k n : Nat) : onesF k n ≤ k := by
  induction k generalizing n with
  | zero => exact Nat.le_refl _
  | succ k ih => have := ih (n / 2); show n % 2 + onesF k (n / 2) ≤ k + 1; omega

theorem ones_any (n : Nat) (hn : n < 64) (w : World) : Calls Try.prog 39 #[.int .i64 n] w fun e w' => e = .returned (.int .i64 (onesF 6 n)) ∧ w = w' := by
  go_enter Try.func39, Try.ntmps39
  go_wp2
  go_loop [0, 3] (fun nv kv => ∃ (m k : Nat), m ≤ n ∧ k + onesF 6 m = onesF 6 n ∧ nv = .int .i64 m ∧ kv = .int .i64 k) (fun nv _ => (intOf nv).toNat)
  case atStart => exact ⟨n, 0, Nat.le_refl _, by omega, rfl, rfl⟩
  case round =>
    obtain ⟨m, k, hm, hk, rfl, rfl⟩ := hrel
    have h1 := onesF_half m (by omega)
    have h2 := onesF_le 6 n
    have hk6 : k ≤ 6 := by omega
    have HK := Lib.hid hk
    have H1 := Lib.hid h1
    clear hk h1 h2
    by_cases h0 : 0 < m
    · go_wp2
      go_round
      case rel => exact ⟨m / 2, k + m % 2, by omega, by have := HK.out; have := H1.out; omega, by go_num, by go_num⟩
      case measure => simp [intOf]; omega
    · go_wp2
      go_ret
      exact ⟨ret_int (by have := HK.out; have e : m = 0 := by omega
                         subst e; have e2 : onesF 6 0 = 0 := rfl
                         omega), rfl⟩

/-- all y below some number, at one x -/
def rowOf (a b : Int) (x m : Nat) : Bool := (List.range m).all fun y => !clash a b x y
def colOf (a b : Int) (n m : Nat) : Bool := (List.range m).all fun x => rowOf a b x n
theorem rowOf_succ (a b : Int) (x m : Nat) : rowOf a b x (m + 1) = (rowOf a b x m && !clash a b x m) := by simp [rowOf, List.range_succ]
theorem colOf_succ (a b : Int) (n m : Nat) : colOf a b n (m + 1) = (colOf a b n m && rowOf a b m n) := by simp [colOf, List.range_succ]
theorem rowOf_false (a b : Int) (x m n : Nat) (h : clash a b x m = true) (hn : m < n) : rowOf a b x n = false := by
  unfold rowOf
  rw [List.all_eq_false]
  exact ⟨m, List.mem_range.2 hn, by simp [h]⟩
theorem colOf_false (a b : Int) (n m N : Nat) (h : rowOf a b m n = false) (hn : m < N) : colOf a b n N = false := by
  unfold colOf
  rw [List.all_eq_false]
  exact ⟨m, List.mem_range.2 hn, by simp [h]⟩

theorem clash_of (a b : Int) (x y : Nat) : clash a b x y = ((decide ((onesF 6 x : Int) = a) && decide ((onesF 6 y : Int) = b)) && decide (bits BinOp.and .i64 x y = 0)) := rfl
theorem clash_no1 (a b : Int) (x y : Nat) (h : ((onesF 6 x : Int) == a) = false) : clash a b x y = false := by simp [clash_of]; simp at h; simp [h]
theorem clash_no2 (a b : Int) (x y : Nat) (h : ((onesF 6 y : Int) == b) = false) : clash a b x y = false := by simp [clash_of]; simp at h; simp [h]
theorem clash_no3 (a b : Int) (x y : Nat) (h : (bits BinOp.and .i64 x y == 0) = false) : clash a b x y = false := by simp [clash_of]; simp at h; simp [h]
theorem clash_yes (a b : Int) (x y : Nat) (h1 : ((onesF 6 x : Int) == a) = true) (h2 : ((onesF 6 y : Int) == b) = true) (h3 : (bits BinOp.and .i64 x y == 0) = true) : clash a b x y = true := by
  simp [clash_of]; simp at h1 h2 h3; exact ⟨⟨h1, h2⟩, h3⟩

def SharesPost (a b : Int) (N : Nat) (w : World) (e : Ending) (w' : World) : Prop := e = .returned (.bool (sharesV a b N)) ∧ w = w'

set_option maxHeartbeats 1000000 in
theorem shares_core (a b c : Int) (N : Nat) (h1 : 1 ≤ c) (h5 : c ≤ 5) (hN : N ≤ 32) (hp : wrap64 (2 ^ c.toNat) = (N : Int)) (w : World) :
    Calls Try.prog 22 #[.int .i64 a, .int .i64 b, .int .i64 c] w (SharesPost a b N w) := by
  go_enter Try.func22, Try.ntmps22
  go_wp2
  go_loop [7] (fun xv => ∃ x : Nat, x ≤ N ∧ xv = .int .i64 x ∧ colOf a b N x = true) (fun xv => N - (intOf xv).toNat)
  case atStart => exact ⟨0, Nat.zero_le _, rfl, rfl⟩
  case round =>
    obtain ⟨x, hx, rfl, hcol⟩ := hrel
    have HCOL := Lib.hid hcol
    clear hcol
    by_cases hlt : x < N
    · go_wp2
      go_loop [8] (fun yv => ∃ y : Nat, y ≤ N ∧ yv = .int .i64 y ∧ rowOf a b x y = true) (fun yv => N - (intOf yv).toNat)
      case atStart => exact ⟨0, Nat.zero_le _, rfl, rfl⟩
      case round =>
        obtain ⟨y, hy, rfl, hrow⟩ := hrel
        have HROW := Lib.hid hrow
        clear hrow
        by_cases hylt : y < N
        · cases q1 : ((onesF 6 x : Int) == a)
          · go_wp2_with (go_at_call 39; refine (ones_any _ (by omega) _).mono ?_; rintro e w' ⟨rfl, rfl⟩)
            go_round
            case rel => exact ⟨y + 1, by omega, by go_num, by rw [rowOf_succ, HROW.out, clash_no1 _ _ _ _ q1]; rfl⟩
            case measure => simp [intOf]; omega
          · cases q2 : ((onesF 6 y : Int) == b)
            · go_wp2_with (go_at_call 39; refine (ones_any _ (by omega) _).mono ?_; rintro e w' ⟨rfl, rfl⟩)
              go_round
              case rel => exact ⟨y + 1, by omega, by go_num, by rw [rowOf_succ, HROW.out, clash_no2 _ _ _ _ q2]; rfl⟩
              case measure => simp [intOf]; omega
            · cases q3 : (bits BinOp.and .i64 x y == 0)
              · go_wp2_with (go_at_call 39; refine (ones_any _ (by omega) _).mono ?_; rintro e w' ⟨rfl, rfl⟩)
                go_round
                case rel => exact ⟨y + 1, by omega, by go_num, by rw [rowOf_succ, HROW.out, clash_no3 _ _ _ _ q3]; rfl⟩
                case measure => simp [intOf]; omega
              · go_wp2_with (go_at_call 39; refine (ones_any _ (by omega) _).mono ?_; rintro e w' ⟨rfl, rfl⟩)
                go_ret
                have e1 : sharesV a b N = false := colOf_false a b N x N (rowOf_false a b x y N (clash_yes a b x y q1 q2 q3) hylt) hlt
                exact ⟨by rw [e1]; rfl, rfl⟩
        · go_wp2
          go_round
          case rel =>
            obtain rfl : y = N := by omega
            exact ⟨x + 1, by omega, by go_num, by rw [colOf_succ, HCOL.out, HROW.out]; rfl⟩
          case measure => simp [intOf]; omega
    · go_wp2
      go_ret
      obtain rfl : x = N := by omega
      have e1 : sharesV a b x = true := HCOL.out
      exact ⟨by rw [e1]; rfl, rfl⟩

theorem pow_wrap : ∀ c : Nat, c ≤ 5 → wrap64 (2 ^ c) = ((2 ^ c : Nat) : Int) ∧ 2 ^ c ≤ 32 := by
  intro c h
  have : c = 0 ∨ c = 1 ∨ c = 2 ∨ c = 3 ∨ c = 4 ∨ c = 5 := by omega
  rcases this with rfl | rfl | rfl | rfl | rfl | rfl <;> decide +kernel

theorem shares_any (a b c : Int) (h1 : 1 ≤ c) (h5 : c ≤ 5) (w : World) :
    Calls Try.prog 22 #[.int .i64 a, .int .i64 b, .int .i64 c] w fun e w' => e = .returned (.bool (sharesV a b (2 ^ c.toNat))) ∧ w = w' :=
  shares_core a b c (2 ^ c.toNat) h1 h5 (pow_wrap _ (by omega)).2 (pow_wrap _ (by omega)).1 w

theorem quorumMeets_any (a b c : Int) (w : World) (hc : c ≤ 9223372036854775807) (hc' : -9223372036854775808 ≤ c) :
    Calls Try.prog 7 #[.int .i64 a, .int .i64 b, .int .i64 c] w fun e w' => e = .returned (.bool true) ∧ w = w' := by
  by_cases h5 : 5 < c
  · go_enter Try.func7, Try.ntmps7
    go_wp2
    go_ret
    exact ⟨rfl, rfl⟩
  · cases ha : needOk a c
    · have hm : meetsV a b c = false := by simp [meetsV, ha]
      go_enter Try.func7, Try.ntmps7
      go_wp2_with (first | (go_at_call 18; refine (need_any _ _ _ hc hc').mono ?_; rintro e w' ⟨rfl, rfl⟩) | (go_at_call 21; refine (meets_any _ _ _ _ hc hc').mono ?_; rintro e w' ⟨rfl, rfl⟩) | (go_at_call 20; refine (alive_any _).mono ?_; rintro e w' ⟨rfl, rfl⟩))
      go_ret
      exact ⟨rfl, rfl⟩
    · cases hb : needOk b c
      · have hm : meetsV a b c = false := by simp [meetsV, hb]
        go_enter Try.func7, Try.ntmps7
        go_wp2_with (first | (go_at_call 18; refine (need_any _ _ _ hc hc').mono ?_; rintro e w' ⟨rfl, rfl⟩) | (go_at_call 21; refine (meets_any _ _ _ _ hc hc').mono ?_; rintro e w' ⟨rfl, rfl⟩) | (go_at_call 20; refine (alive_any _).mono ?_; rintro e w' ⟨rfl, rfl⟩))
        go_ret
        exact ⟨rfl, rfl⟩
      · obtain ⟨x1, x2, c1, a1, a3⟩ := need_in a c ha
        obtain ⟨y1, y2, _, b1, b3⟩ := need_in b c hb
        have hm := meets_shares a b c c1 (by omega) a1 a3 b1 b3
        go_enter Try.func7, Try.ntmps7
        go_wp2_with (first | (go_at_call 18; refine (need_any _ _ _ hc hc').mono ?_; rintro e w' ⟨rfl, rfl⟩) | (go_at_call 21; refine (meets_any _ _ _ _ hc hc').mono ?_; rintro e w' ⟨rfl, rfl⟩) | (go_at_call 20; refine (alive_any _).mono ?_; rintro e w' ⟨rfl, rfl⟩) | (go_at_call 22; refine (shares_any _ _ _ c1 (by omega) _).mono ?_; rintro e w' ⟨rfl, rfl⟩))
        go_ret
        exact ⟨rfl, rfl⟩
end Go.Proofs.Ytigeieahhkoolaa.Quorum
