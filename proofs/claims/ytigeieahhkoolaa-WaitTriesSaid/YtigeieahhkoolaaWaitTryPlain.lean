/- Layer 48 (wait), in plain Lean: the ticks at which one tries. No Go in sight. -/
import Derived.Test.YtigeieahhkoolaaWaitPlain
namespace Go.Proofs.Ytigeieahhkoolaa.Wait

def cutT (a : Int) : Int := min (max a 0) 1099511627776
theorem cutT_bd (a : Int) : 0 ≤ cutT a ∧ cutT a ≤ 1099511627776 := by unfold cutT; omega

/-- The tick of a try. -/
def atF (f m s a : Int) : Nat → Int
  | 0 => cutT a
  | k + 1 => atF f m s a k + ofF f m s k
theorem atF_ge (f m s a : Int) (k : Nat) : (k : Int) ≤ atF f m s a k := by
  induction k with
  | zero => exact (cutT_bd a).1
  | succ k ih => have := ofF_bd f m s k; show _ ≤ atF f m s a k + ofF f m s k; omega
/-- How many tries there are up to ahead of a tick. -/
def Tries (f m s a b : Int) (T : Nat) : Prop := (∀ k, k < T → atF f m s a k < cutT b) ∧ cutT b ≤ atF f m s a T
theorem exists_T (f m s a b : Int) : ∃ T, Tries f m s a b T := by
  have hex : ∀ d k : Nat, (∀ j, j < k → atF f m s a j < cutT b) → (cutT b - atF f m s a k).toNat ≤ d → ∃ T, Tries f m s a b T := by
    intro d
    induction d with
    | zero => intro k h1 h2; exact ⟨k, h1, by omega⟩
    | succ d ih =>
      intro k h1 h2
      by_cases h : cutT b ≤ atF f m s a k
      · exact ⟨k, h1, h⟩
      · have hs : atF f m s a (k + 1) = atF f m s a k + ofF f m s k := rfl
        have := ofF_bd f m s k
        refine ih (k + 1) (fun j hj => ?_) (by omega)
        by_cases e : j = k
        · subst e; omega
        · exact h1 j (by omega)
  exact hex _ 0 (fun j h => by omega) (Nat.le_refl _)
theorem Tries.bd {f m s a b : Int} {T : Nat} (h : Tries f m s a b T) {k : Nat} (hk : k ≤ T) : 0 ≤ atF f m s a k ∧ atF f m s a k ≤ 1100585369600 ∧ (k : Int) ≤ 1099511627776 := by
  have h0 := atF_ge f m s a k
  have hb := cutT_bd b
  cases k with
  | zero => have : atF f m s a 0 = cutT a := rfl; have := cutT_bd a; omega
  | succ k =>
    have := h.1 k (by omega)
    have hs : atF f m s a (k + 1) = atF f m s a k + ofF f m s k := rfl
    have := ofF_bd f m s k
    have := boundF_bd f m k
    have := atF_ge f m s a k
    omega
/-- The tries and their ticks, the first k. -/
def pr (f m s a : Int) (k : Nat) : List (Nat × Int) := (List.range k).map fun j => (j, atF f m s a j)
theorem pr_succ (f m s a : Int) (k : Nat) : pr f m s a (k + 1) = pr f m s a k ++ [(k, atF f m s a k)] := by simp [pr, List.range_succ]
theorem pr_len (f m s a : Int) (k : Nat) : (pr f m s a k).length = k := by simp [pr]
theorem pr_eq {f m s a : Int} {k : Nat} {pre : List (Nat × Int)} {x : Nat × Int} (h : pr f m s a k = pre ++ [x]) : pre = pr f m s a pre.length ∧ x = (pre.length, atF f m s a pre.length) ∧ k = pre.length + 1 := by
  cases k with
  | zero => simp [pr] at h
  | succ k =>
    rw [pr_succ] at h
    obtain ⟨h1, h2⟩ := List.append_inj' h rfl
    have e : k = pre.length := by rw [← h1, pr_len]
    subst e
    exact ⟨h1.symm, by simpa using h2.symm, rfl⟩
end Go.Proofs.Ytigeieahhkoolaa.Wait
