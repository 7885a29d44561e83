/- Layer 32 (quorum): what a level needs, and that two choices meet, in plain Lean: no Go in sight. -/
import Derived.WalkKit
namespace Go.Proofs.Ytigeieahhkoolaa.Quorum

/-- How many a level needs, of so many copies. -/
def needV (l c : Int) : Int := if c < 1 then 0 else if l = 1 then 1 else if l = 2 then c / 2 + 1 else if l = 3 then c else 0
def needOk (l c : Int) : Bool := decide (1 ≤ c) && (decide (l = 1) || decide (l = 2) || decide (l = 3))
/-- Do the levels meet? -/
def meetsV (a b c : Int) : Bool := needOk a c && needOk b c && decide (c - needV b c < needV a c)

/-- How many bits are set, of a number below 2^n. -/
def onesF : Nat → Nat → Nat
  | 0, _ => 0
  | k + 1, n => n % 2 + onesF k (n / 2)
def clash (a b : Int) (x y : Nat) : Bool := (decide ((onesF 6 x : Int) = a) && decide ((onesF 6 y : Int) = b)) && decide (bits BinOp.and .i64 x y = 0)
def sharesV (a b : Int) (n : Nat) : Bool := (List.range n).all fun x => (List.range n).all fun y => !clash a b x y

theorem meets_all : ((List.range 5).all fun c => (List.range 3).all fun a => (List.range 3).all fun b =>
    meetsV ((a + 1 : Nat) : Int) ((b + 1 : Nat) : Int) ((c + 1 : Nat) : Int) == sharesV (needV ((a + 1 : Nat) : Int) ((c + 1 : Nat) : Int)) (needV ((b + 1 : Nat) : Int) ((c + 1 : Nat) : Int)) (2 ^ (c + 1))) = true := by
  decide +kernel

theorem meets_shares (a b c : Int) (hc : 1 ≤ c) (hc5 : c ≤ 5) (ha : 1 ≤ a) (ha3 : a ≤ 3) (hb : 1 ≤ b) (hb3 : b ≤ 3) : meetsV a b c = sharesV (needV a c) (needV b c) (2 ^ c.toNat) := by
  have h := List.all_eq_true.1 (List.all_eq_true.1 (List.all_eq_true.1 meets_all (c.toNat - 1) (List.mem_range.2 (by omega))) (a.toNat - 1) (List.mem_range.2 (by omega))) (b.toNat - 1) (List.mem_range.2 (by omega))
  rw [show ((a.toNat - 1 + 1 : Nat) : Int) = a from by omega, show ((b.toNat - 1 + 1 : Nat) : Int) = b from by omega, show ((c.toNat - 1 + 1 : Nat) : Int) = c from by omega, show c.toNat - 1 + 1 = c.toNat from by omega] at h
  exact eq_of_beq h

theorem need_in (l c : Int) (h : needOk l c = true) : 1 ≤ needV l c ∧ needV l c ≤ c ∧ 1 ≤ c ∧ 1 ≤ l ∧ l ≤ 3 := by
  unfold needOk at h
  simp at h
  unfold needV
  obtain ⟨h1, h2⟩ := h
  rw [if_neg (by omega)]
  split
  · omega
  split
  · omega
  split <;> omega

theorem need_bd (l c : Int) (h : c ≤ 9223372036854775807) : 0 ≤ needV l c ∧ needV l c ≤ 9223372036854775807 := by
  unfold needV
  repeat' split
  all_goals omega

theorem onesF_step (k n : Nat) (h : n < 2 ^ k) : onesF (k + 1) n = onesF k n := by
  induction k generalizing n with
  | zero => have : n = 0 := by omega
            subst this; rfl
  | succ k ih =>
    show n % 2 + onesF (k + 1) (n / 2) = n % 2 + onesF k (n / 2)
    rw [ih (n / 2) (by rw [Nat.pow_succ] at h; omega)]

end Go.Proofs.Ytigeieahhkoolaa.Quorum
