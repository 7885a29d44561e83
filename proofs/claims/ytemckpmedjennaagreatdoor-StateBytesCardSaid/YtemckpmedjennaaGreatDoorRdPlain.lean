/- A reader of bytes, in plain Lean: numbers, texts, counts (layer 3). -/
import Derived.Test.YtemckpmedjennaaGreatDoorMrkPlain
import Derived.Laws.BitsAllLaws
import Derived.Test.YtemckpmedjennaaGreatDoorCalmTail
set_option linter.unusedSimpArgs false
set_option linter.unusedVariables false
namespace Go.Proofs.YtemckpmedjennaaGreatDoor.Rd
open Go Go.Proofs.YtemckpmedjennaaGreatDoor.Mrk

/-- A number of the bytes from i on, of which n is read (it began at a): its value and the place behind it, or why there is none. -/
def numL (B : List Nat) (a : Nat) : Nat → Nat → Nat → Except Int (Nat × Nat)
  | 0, _, _ => .error 30
  | f + 1, i, n => match B[i]? with
    | none => .error 30
    | some c => if (i = a ∧ c = 128) ∨ 36028797018963968 ≤ n then .error 31 else if c < 128 then .ok (n * 128 + c, i + 1) else numL B a f (i + 1) (n * 128 + c % 128)
def numR (B : List Nat) (a : Nat) : Except Int (Nat × Nat) := numL B a (B.length + 1 - a) a 0
/-- What a reader knows: where it is, and why nothing more is read. -/
abbrev S := Nat × Int
/-- Num: what is told, and the reader behind it. -/
def numS (B : List Nat) (s : S) : Nat × S :=
  if s.2 = 0 then match numR B s.1 with
    | .ok (n, a) => (n, (a, 0))
    | .error e => (0, (s.1, e))
  else (0, s)
theorem numL_step (B : List Nat) (a f i n c : Nat) (h : B[i]? = some c) : numL B a (f + 1) i n = if (i = a ∧ c = 128) ∨ 36028797018963968 ≤ n then .error 31 else if c < 128 then .ok (n * 128 + c, i + 1) else numL B a f (i + 1) (n * 128 + c % 128) := by
  rw [numL, h]
theorem numL_end (B : List Nat) (a f i n : Nat) (h : B.length ≤ i) : numL B a f i n = .error 30 := by
  cases f with
  | zero => rfl
  | succ f => rw [numL, List.getElem?_eq_none h]
theorem numL_bound (B : List Nat) (a : Nat) : ∀ (f i n m b : Nat), i ≤ B.length → numL B a f i n = .ok (m, b) → i < b ∧ b ≤ B.length ∧ m < 4611686018427387904
  | 0, _, _, _, _, _, h => by cases h
  | f + 1, i, n, m, b, hi, h => by
    cases hc : B[i]? with
    | none => rw [numL, hc] at h; cases h
    | some c =>
      rw [numL_step B a f i n c hc] at h
      have hl := (List.getElem?_eq_some_iff.1 hc).1
      split at h
      · cases h
      · rename_i hn
        split at h
        · rename_i h128
          simp only [Except.ok.injEq, Prod.mk.injEq] at h
          obtain ⟨rfl, rfl⟩ := h
          refine ⟨by omega, by omega, ?_⟩
          have : ¬ 36028797018963968 ≤ n := fun h => hn (Or.inr h)
          omega
        · obtain ⟨h1, h2, h3⟩ := numL_bound B a f (i + 1) _ m b hl h
          exact ⟨by omega, h2, h3⟩
theorem numS_ok (B : List Nat) (s : S) (hs : s.1 ≤ B.length) : (numS B s).2.1 ≤ B.length ∧ (numS B s).1 < 4611686018427387904 ∧ s.1 ≤ (numS B s).2.1 := by
  unfold numS
  split
  · cases h : numR B s.1 with
    | error e => exact ⟨hs, (show (0 : Nat) < 4611686018427387904 by omega), Nat.le_refl _⟩
    | ok p =>
      obtain ⟨n, a⟩ := p
      obtain ⟨h1, h2, h3⟩ := numL_bound B s.1 _ _ _ _ _ hs h
      exact ⟨h2, h3, (show s.1 ≤ a by omega)⟩
  · exact ⟨hs, (show (0 : Nat) < 4611686018427387904 by omega), Nat.le_refl _⟩
theorem numL_err (B : List Nat) (a : Nat) : ∀ (f i n : Nat) (e : Int), numL B a f i n = .error e → e = 30 ∨ e = 31
  | 0, _, _, e, h => by simp only [numL, Except.error.injEq] at h; exact Or.inl h.symm
  | f + 1, i, n, e, h => by
    cases hc : B[i]? with
    | none => rw [numL, hc] at h; simp only [Except.error.injEq] at h; exact Or.inl h.symm
    | some c =>
      rw [numL_step B a f i n c hc] at h
      split at h
      · simp only [Except.error.injEq] at h; exact Or.inr h.symm
      · split at h
        · cases h
        · exact numL_err B a f (i + 1) _ e h
theorem numS_pos (B : List Nat) (s : S) (hs : s.1 ≤ B.length) (h0 : (numS B s).2.2 = 0) : s.1 < (numS B s).2.1 := by
  unfold numS at h0 ⊢
  split
  · rename_i hy
    rw [if_pos hy] at h0
    cases h : numR B s.1 with
    | error e =>
      rw [h] at h0
      have h1 : e = 0 := h0
      rcases numL_err B s.1 _ _ _ _ h with h2 | h2 <;> omega
    | ok p =>
      obtain ⟨n, a⟩ := p
      exact (numL_bound B s.1 _ _ _ _ _ hs h).1
  · rename_i hy
    rw [if_neg hy] at h0
    exact absurd h0 hy
theorem or128_nat (n c : Nat) (hc : c < 128) : n * 128 ||| c = n * 128 + c := by
  have h := Nat.two_pow_add_eq_or_of_lt (i := 7) (by simpa using hc) n
  rw [show (2 : Nat) ^ 7 = 128 from rfl, Nat.mul_comm] at h
  exact h.symm
theorem i64_or_nat (a b : Nat) (ha : a < 9223372036854775808) (hb : b < 9223372036854775808) : bits .or .i64 (a : Int) (b : Int) = ((a ||| b : Nat) : Int) := by
  have hx : a ||| b < 2 ^ 63 := Nat.or_lt_two_pow (by omega) (by omega)
  show IntKind.i64.wrap ((BitVec.ofInt 64 (a : Int) ||| BitVec.ofInt 64 (b : Int)).toNat : Int) = _
  rw [BitVec.toNat_or, ofInt_u64 a (by omega), ofInt_u64 b (by omega), Go.IntWalk.i64_in _ (by omega)]
theorem and127_nat (c : Nat) (hc : c < 256) : c &&& 127 = c % 128 := by
  have h := Nat.and_two_pow_sub_one_eq_mod c 7
  simpa using h
end Go.Proofs.YtemckpmedjennaaGreatDoor.Rd
