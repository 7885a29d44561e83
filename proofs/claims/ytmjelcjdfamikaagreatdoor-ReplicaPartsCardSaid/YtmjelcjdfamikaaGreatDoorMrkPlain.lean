/- Layer 24 in plain Lean: a number's bytes, the sum of bytes, of two sums; where two trees differ, from the root down and node by node. -/
set_option linter.unusedSimpArgs false
set_option linter.unusedVariables false
namespace Go.Proofs.YtmjelcjdfamikaaGreatDoor.Mrk

/-! A number's bytes: seven bits each, the lowest first ('low'); with 128 to all but the last one, the highest first ('putF'). -/
def low (n : Nat) : List Nat := n % 128 :: (if n / 128 = 0 then [] else low (n / 128))
termination_by n
decreasing_by omega
def hi (l : List Nat) : List Nat := l.map (· + 128)
def putF (n : Nat) : List Nat := hi (low n).tail.reverse ++ [n % 128]

theorem low_small {n : Nat} (h : n < 128) : low n = [n] := by
  rw [low, if_pos (by omega), Nat.mod_eq_of_lt h]
theorem low_big {n : Nat} (h : 128 ≤ n) : low n = n % 128 :: low (n / 128) := by
  rw [low, if_neg (by omega)]
theorem low_ne (n : Nat) : low n ≠ [] := by rw [low]; simp
theorem low_lt (n : Nat) : ∀ c ∈ low n, c < 128 := by
  induction n using Nat.strongRecOn with
  | _ n ih =>
    rw [low]
    intro c hc
    rcases List.mem_cons.1 hc with rfl | hc
    · omega
    · split at hc
      · cases hc
      · exact ih _ (by omega) c hc
theorem low_len : ∀ (k n : Nat), n < 128 ^ (k + 1) → (low n).length ≤ k + 1
  | 0, n, h => by rw [low_small (by simpa using h)]; simp
  | k + 1, n, h => by
    by_cases hs : n < 128
    · rw [low_small hs]; simp
    · rw [low_big (by omega), List.length_cons]
      have : n / 128 < 128 ^ (k + 1) := by rw [Nat.div_lt_iff_lt_mul (by decide)]; rw [Nat.pow_succ] at h; exact h
      have := low_len k (n / 128) this
      omega
theorem low_ten {n : Nat} (h : n < 18446744073709551616) : (low n).length ≤ 10 := low_len 9 n (Nat.lt_of_lt_of_le h (by decide))
theorem low_head (n : Nat) : (low n).head? = some (n % 128) := by rw [low]; rfl

theorem putF_small {n : Nat} (h : n < 128) : putF n = [n] := by
  unfold putF; rw [low_small h, Nat.mod_eq_of_lt h]; rfl
/-- All but the last byte have 128 more. -/
theorem putF_big {n : Nat} (h : 128 ≤ n) : ∃ l x, putF (n / 128) = l ++ [x] ∧ putF n = l ++ [x + 128] ++ [n % 128] ∧ x < 128 := by
  refine ⟨hi (low (n / 128)).tail.reverse, n / 128 % 128, rfl, ?_, by omega⟩
  unfold putF
  rw [low_big h, List.tail_cons]
  congr 1
  conv => lhs; rw [low]
  rw [List.reverse_cons]
  unfold hi
  rw [List.map_append]
  have : (if n / 128 / 128 = 0 then [] else low (n / 128 / 128)) = (low (n / 128)).tail := by
    conv => rhs; rw [low]
    rfl
  rw [this]
  rfl
theorem putF_lt (n : Nat) : ∀ c ∈ putF n, c < 256 := by
  intro c hc
  unfold putF hi at hc
  rw [List.mem_append, List.mem_map] at hc
  rcases hc with ⟨a, ha, rfl⟩ | hc
  · have := low_lt n a (List.mem_of_mem_tail (List.mem_reverse.1 ha))
    omega
  · have := List.mem_singleton.1 hc; omega
theorem putF_len {n : Nat} : (putF n).length = (low n).length := by
  unfold putF hi
  have := List.length_pos_iff.2 (low_ne n)
  simp
  omega

/-! The sum of bytes; of two sums. -/
def on1 (x c : Nat) : Nat := (x ^^^ c) * 1099511628211 % 18446744073709551616
def onF (x : Nat) (l : List Nat) : Nat := l.foldl on1 x
def sumF (x : Nat) (l : List Nat) : Nat := onF x l ^^^ (onF x l / 536870912)
def nodeF (a b : Nat) : Nat := sumF (sumF 14695981039346656037 (putF (a / 4))) (putF (b / 4) ++ [a % 4 * 4 + b % 4])

theorem on1_lt (x c : Nat) : on1 x c < 18446744073709551616 := Nat.mod_lt _ (by decide)
theorem onF_lt {x : Nat} (h : x < 18446744073709551616) (l : List Nat) : onF x l < 18446744073709551616 := by
  induction l generalizing x with
  | nil => exact h
  | cons c l ih => exact ih (on1_lt x c)
theorem sumF_lt {x : Nat} (h : x < 18446744073709551616) (l : List Nat) : sumF x l < 18446744073709551616 := by
  have := onF_lt h l
  exact Nat.xor_lt_two_pow (n := 64) this (by omega)
theorem nodeF_lt (a b : Nat) : nodeF a b < 18446744073709551616 := sumF_lt (sumF_lt (by decide) _) _

/-! Where two trees differ: 'D i': the sums of node i are the same. -/
/-- From node i (of so many levels more) down: the leaves that differ, and how many nodes were looked at. -/
def downF (D : Nat → Bool) : Nat → Nat → List Int × Nat
  | 0, i => if D i then ([], 1) else ([(i : Int) - 16], 1)
  | f + 1, i => if D i then ([], 1) else ((downF D f (2 * i)).1 ++ (downF D f (2 * i + 1)).1, 1 + (downF D f (2 * i)).2 + (downF D f (2 * i + 1)).2)
/-- Is there none above a node whose sums are the same? -/
def upF (D : Nat → Bool) : Nat → Nat → Bool
  | 0, _ => true
  | f + 1, i => if i / 2 = 0 then true else !D (i / 2) && upF D f (i / 2)
def reachF (D : Nat → Bool) (i : Nat) : Bool := upF D 6 i
/-- The leaves that differ among the first so many nodes, and how many of these are looked at. -/
def outF (D : Nat → Bool) : Nat → List Int
  | 0 => []
  | n + 1 => outF D n ++ (if reachF D n && (decide (16 ≤ n) && !D n) && decide (1 ≤ n) then [(n : Int) - 16] else [])
def lookF (D : Nat → Bool) : Nat → Nat
  | 0 => 0
  | n + 1 => lookF D n + (if reachF D n && decide (1 ≤ n) then 1 else 0)

/-- The same as 'downF', of a node that is reached just if u. -/
def downU (D : Nat → Bool) (u : Bool) : Nat → Nat → List Int × Nat
  | 0, i => (if u && (true && !D i) && true then [(i : Int) - 16] else [], if u && true then 1 else 0)
  | f + 1, i => ((downU D (!D i && u) f (2 * i)).1 ++ (downU D (!D i && u) f (2 * i + 1)).1, (if u && true then 1 else 0) + (downU D (!D i && u) f (2 * i)).2 + (downU D (!D i && u) f (2 * i + 1)).2)
theorem downU_false (D : Nat → Bool) : ∀ f i, downU D false f i = ([], 0)
  | 0, i => rfl
  | f + 1, i => by unfold downU; simp only [Bool.and_false]; rw [downU_false D f, downU_false D f]; rfl
theorem downU_true (D : Nat → Bool) : ∀ f i, downU D true f i = downF D f i
  | 0, i => by unfold downU downF; cases D i <;> simp
  | f + 1, i => by
    unfold downU downF
    cases D i
    · simp only [Bool.not_false, Bool.and_true]; rw [downU_true D f, downU_true D f]; simp
    · simp only [Bool.not_true, Bool.and_true]; rw [downU_false, downU_false]; simp

theorem tree_same (D : Nat → Bool) : downF D 4 1 = (outF D 32, lookF D 32) := by
  rw [← downU_true]
  simp only [downU, outF, lookF, reachF, upF, Nat.reduceMul, Nat.reduceAdd, Nat.reduceDiv, Nat.reduceLeDiff, decide_true, decide_false, Bool.and_true, Bool.true_and, Bool.false_and, Bool.and_false, Nat.reduceEqDiff, if_true, if_false, Bool.false_eq_true, ↓reduceIte, List.nil_append, List.append_nil, Nat.zero_add, Nat.add_zero]
  refine Prod.ext ?_ ?_
  · simp only [List.append_assoc]
  · simp only []
    omega
end Go.Proofs.YtmjelcjdfamikaaGreatDoor.Mrk
