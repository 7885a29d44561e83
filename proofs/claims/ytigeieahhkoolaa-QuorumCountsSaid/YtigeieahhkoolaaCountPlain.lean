/- Layer 32 (quorum), Count, in plain Lean: answers that come. No Go in sight. -/
import Derived.WalkKit
namespace Go.Proofs.Ytigeieahhkoolaa.Quorum

/-- How many of the first k are. -/
def cntF (f : Nat → Bool) : Nat → Nat
  | 0 => 0
  | k + 1 => cntF f k + if f k then 1 else 0
theorem cntF_le (f : Nat → Bool) (k : Nat) : cntF f k ≤ k := by
  induction k with
  | zero => exact Nat.le_refl _
  | succ k ih => unfold cntF; split <;> omega
def updB (f : Nat → Bool) (i : Nat) (v : Bool) : Nat → Bool := fun j => if j = i then v else f j
theorem cntF_upd_ge (f : Nat → Bool) (i : Nat) (v : Bool) (k : Nat) (h : k ≤ i) : cntF (updB f i v) k = cntF f k := by
  induction k with
  | zero => rfl
  | succ k ih =>
    have e : updB f i v k = f k := by unfold updB; rw [if_neg (by omega)]
    unfold cntF
    rw [ih (by omega), e]
theorem cntF_set (f : Nat → Bool) (i k : Nat) (hi : i < k) (hf : f i = false) : cntF (updB f i true) k = cntF f k + 1 := by
  induction k with
  | zero => omega
  | succ k ih =>
    unfold cntF
    by_cases h : i = k
    · subst h
      rw [cntF_upd_ge _ _ _ _ (Nat.le_refl _), hf]
      simp [updB]
    · rw [ih (by omega)]
      have : updB f i true k = f k := by unfold updB; rw [if_neg (by omega)]
      rw [this]
      omega
theorem cntF_congr (f g : Nat → Bool) (k : Nat) (h : ∀ i, i < k → f i = g i) : cntF f k = cntF g k := by
  induction k with
  | zero => rfl
  | succ k ih => unfold cntF; rw [ih (fun i hi => h i (by omega)), h k (by omega)]

/-- What is known of the answers: who said something, whose was OK, why the first refused. -/
structure Ans where
  sd : Nat → Bool
  ok : Nat → Bool
  why : Int
def Ans.no (a : Ans) : Nat → Bool := fun i => a.sd i && !a.ok i
def Ans.Fit (a : Ans) : Prop := ∀ i, a.ok i = true → a.sd i = true
/-- Does an answer count? -/
def Ans.counts (a : Ans) (n : Int) : Bool := decide (0 ≤ n) && (decide (n < 5) && !a.sd n.toNat)
/-- An answer more. -/
def Ans.say (a : Ans) (n why : Int) : Ans :=
  if a.counts n then
    if why = 0 then ⟨updB a.sd n.toNat true, updB a.ok n.toNat true, a.why⟩
    else ⟨updB a.sd n.toNat true, updB a.ok n.toNat false, if a.why = 0 then why else a.why⟩
  else a
theorem Ans.say_fit (a : Ans) (n why : Int) (h : a.Fit) : (a.say n why).Fit := by
  intro i
  unfold Ans.say
  split
  · split
    · unfold updB
      simp only
      split
      · simp
      · exact h i
    · unfold updB
      simp only
      split
      · simp
      · exact h i
  · exact h i
theorem Ans.yes_ok (a : Ans) (n why : Int) (h : a.Fit) (hc : a.counts n = true) (h0 : why = 0) : cntF (a.say n why).ok 5 = cntF a.ok 5 + 1 ∧ cntF (a.say n why).no 5 = cntF a.no 5 ∧ (a.say n why).why = a.why := by
  unfold Ans.say
  rw [if_pos hc, if_pos h0]
  unfold Ans.counts at hc
  simp at hc
  obtain ⟨c1, c2, c3⟩ := hc
  have ho : a.ok n.toNat = false := by cases e : a.ok n.toNat with | false => rfl | true => rw [h _ e] at c3; cases c3
  refine ⟨cntF_set a.ok n.toNat 5 (by omega) ho, cntF_congr _ _ 5 fun i _ => ?_, rfl⟩
  unfold Ans.no updB
  simp only
  split
  · rename_i e; subst e; simp [c3]
  · rfl
theorem Ans.yes_no (a : Ans) (n why : Int) (h : a.Fit) (hc : a.counts n = true) (h0 : why ≠ 0) : cntF (a.say n why).ok 5 = cntF a.ok 5 ∧ cntF (a.say n why).no 5 = cntF a.no 5 + 1 ∧ (a.say n why).why = (if a.why = 0 then why else a.why) := by
  unfold Ans.say
  rw [if_pos hc, if_neg h0]
  unfold Ans.counts at hc
  simp at hc
  obtain ⟨c1, c2, c3⟩ := hc
  have ho : a.ok n.toNat = false := by cases e : a.ok n.toNat with | false => rfl | true => rw [h _ e] at c3; cases c3
  refine ⟨cntF_congr _ _ 5 fun i _ => ?_, ?_, rfl⟩
  · unfold updB
    simp only
    split
    · rename_i e; subst e; exact ho.symm
    · rfl
  · rw [← cntF_set a.no n.toNat 5 (by omega) (by unfold Ans.no; rw [c3]; rfl)]
    refine cntF_congr _ _ 5 fun i _ => ?_
    unfold Ans.no updB
    simp only
    split <;> simp
theorem Ans.say_not (a : Ans) (n why : Int) (hc : a.counts n = false) : a.say n why = a := by unfold Ans.say; rw [if_neg (by rw [hc]; decide)]

/-- The cells of a Count. -/
def cell (need copies : Int) (a : Ans) (i : Nat) : Value :=
  if i = 0 then .int .i64 need else if i = 1 then .int .i64 copies else if i < 7 then .bool (a.ok (i - 2)) else if i < 12 then .bool (a.no (i - 7)) else .int .i64 a.why
theorem cell_ok (need copies : Int) (a : Ans) (k : Nat) (h : k < 5) : cell need copies a (2 + k) = .bool (a.ok k) := by
  unfold cell
  rw [if_neg (by omega), if_neg (by omega), if_pos (by omega), show 2 + k - 2 = k by omega]
theorem cell_no (need copies : Int) (a : Ans) (k : Nat) (h : k < 5) : cell need copies a (7 + k) = .bool (a.no k) := by
  unfold cell
  rw [if_neg (by omega), if_neg (by omega), if_neg (by omega), if_pos (by omega), show 7 + k - 7 = k by omega]
end Go.Proofs.Ytigeieahhkoolaa.Quorum
