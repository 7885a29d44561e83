/- Layer 48 (wait), in plain Lean: the longest wait, what is drawn, the wait itself. No Go in sight. -/
import Derived.WalkKit
import Derived.OpenShut
namespace Go.Proofs.Ytigeieahhkoolaa.Wait

/-- What is drawn by a seed and a try. -/
def drawF (s t : Int) : Int :=
  let x := (s + (t + 1) * 2654435769) % 4294967296
  let y := bits BinOp.xor .u32 x (x / 65536) * 569420461 % 4294967296
  let z := bits BinOp.xor .u32 y (y / 32768) * 1935289751 % 4294967296
  bits BinOp.xor .u32 z (z / 32768)

theorem drawF_bd (s t : Int) : 0 ≤ drawF s t ∧ drawF s t ≤ 4294967295 := by
  unfold drawF
  exact bounds_u32 (wf_bits _ _ _ _)

/-- Doubled k times, but not further than the first that is top or more. -/
def dbl : Nat → Int → Int → Int
  | 0, n, _ => n
  | k + 1, n, top => if n < top then dbl k (n + n) top else n

theorem dbl_top (k : Nat) (n top : Int) (h : top ≤ n) : dbl k n top = n := by
  cases k with
  | zero => rfl
  | succ k => simp [dbl, show ¬ n < top by omega]

theorem dbl_add (k j : Nat) : ∀ (n top : Int), 1 ≤ n → top ≤ n * 2 ^ k → dbl (k + j) n top = dbl k n top := by
  induction k with
  | zero =>
    intro n top h1 h2
    rw [Nat.zero_add, dbl_top j n top (by omega)]; rfl
  | succ k ih =>
    intro n top h1 h2
    rw [show k + 1 + j = (k + j) + 1 by omega]
    unfold dbl
    split
    · refine ih (n + n) top (by omega) ?_
      rw [Int.pow_succ] at h2
      calc top ≤ n * (2 ^ k * 2) := h2
        _ = (n + n) * 2 ^ k := by rw [← Int.two_mul]; ac_rfl
    · rfl

/-- one round more, at the end -/
theorem dbl_step (k : Nat) : ∀ (n top : Int), dbl k n top < top → dbl (k + 1) n top = dbl k n top + dbl k n top := by
  induction k with
  | zero =>
    intro n top h
    have h : n < top := h
    show (if n < top then n + n else n) = n + n
    rw [if_pos h]
  | succ k ih =>
    intro n top h
    by_cases hn : n < top
    · have e : dbl (k + 1) n top = dbl k (n + n) top := by show (if n < top then dbl k (n + n) top else n) = _; rw [if_pos hn]
      have e2 : dbl (k + 1 + 1) n top = dbl (k + 1) (n + n) top := by show (if n < top then dbl (k + 1) (n + n) top else n) = _; rw [if_pos hn]
      rw [e] at h ⊢
      rw [e2]
      exact ih _ _ h
    · rw [dbl_top _ _ _ (by omega)] at h
      omega
theorem dbl_stay (k j : Nat) (n top : Int) (h : top ≤ dbl k n top) : dbl (k + j) n top = dbl k n top := by
  induction k generalizing n with
  | zero => rw [Nat.zero_add, dbl_top j n top h]; rfl
  | succ k ih =>
    rw [show k + 1 + j = (k + j) + 1 by omega]
    unfold dbl at h ⊢
    split
    · rename_i hn
      rw [if_pos hn] at h
      exact ih _ h
    · rfl
theorem dbl_bd (k : Nat) : ∀ (n top : Int), 1 ≤ n → n ≤ 1073741824 → top ≤ 1073741824 → 1 ≤ dbl k n top ∧ dbl k n top ≤ 2147483648 := by
  induction k with
  | zero => intro n top h1 h2 h3; exact ⟨h1, by show n ≤ _; omega⟩
  | succ k ih =>
    intro n top h1 h2 h3
    show 1 ≤ (if n < top then dbl k (n + n) top else n) ∧ (if n < top then dbl k (n + n) top else n) ≤ _
    split
    · by_cases h : n + n ≤ 1073741824
      · exact ih _ _ (by omega) h h3
      · rw [dbl_top _ _ _ (by omega)]
        omega
    · omega

def lo (n : Int) : Int := min (max n 1) 1073741824
theorem lo_bd (n : Int) : 1 ≤ lo n ∧ lo n ≤ 1073741824 := by unfold lo; omega

/-- The longest wait ahead of a try. -/
def boundF (f m t : Int) : Int := min (dbl (min (max t 0) 40).toNat (lo f) (lo m)) (lo m)
theorem boundF_32 (f m t : Int) : boundF f m t = min (dbl (min (max t 0) 32).toNat (lo f) (lo m)) (lo m) := by
  have h1 := lo_bd f
  have h2 := lo_bd m
  by_cases ht : t ≤ 32
  · unfold boundF
    rw [show min (max t 0) 40 = min (max t 0) 32 by omega]
  · unfold boundF
    have e : (min (max t 0) 40).toNat = 30 + ((min (max t 0) 40).toNat - 30) := by omega
    have e2 : (min (max t 0) 32).toNat = 30 + 2 := by omega
    rw [e, e2, dbl_add 30 _ (lo f) (lo m) h1.1 (by omega), dbl_add 30 2 (lo f) (lo m) h1.1 (by omega)]
theorem boundF_bd (f m t : Int) : 1 ≤ boundF f m t ∧ boundF f m t ≤ 1073741824 := by
  have h1 := lo_bd f
  have h2 := lo_bd m
  have := dbl_bd (min (max t 0) 40).toNat (lo f) (lo m) h1.1 h1.2 h2.2
  unfold boundF
  omega

/-- The wait ahead of a try. -/
def ofF (f m s t : Int) : Int :=
  let b := boundF f m t
  (b + 1) / 2 + drawF s (min (max t 0) 1073741824) % (b - (b + 1) / 2 + 1)
theorem ofF_bd (f m s t : Int) : 1 ≤ ofF f m s t ∧ ofF f m s t ≤ boundF f m t ∧ boundF f m t ≤ 2 * ofF f m s t := by
  have h := boundF_bd f m t
  unfold ofF
  simp only
  generalize boundF f m t = b at *
  generalize drawF s (min (max t 0) 1073741824) = d
  have h1 : 0 ≤ d % (b - (b + 1) / 2 + 1) := Int.emod_nonneg _ (by omega)
  have h2 : d % (b - (b + 1) / 2 + 1) < b - (b + 1) / 2 + 1 := Int.emod_lt_of_pos _ (by omega)
  omega
end Go.Proofs.Ytigeieahhkoolaa.Wait
