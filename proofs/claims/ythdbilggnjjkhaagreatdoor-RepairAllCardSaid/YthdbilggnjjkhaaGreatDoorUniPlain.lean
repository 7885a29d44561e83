/- What one content lacks of another one; joins of many (layers 25, 29), in plain Lean. -/
import Derived.Test.YthdbilggnjjkhaaGreatDoorConKnown
set_option linter.unusedSimpArgs false
set_option linter.unusedVariables false
namespace Go.Proofs.YthdbilggnjjkhaaGreatDoor.Mut
open Go.Proofs.YthdbilggnjjkhaaGreatDoor.Ord
set_option linter.unusedSectionVars false
variable [Inhabited Lim]

/-- Are two contents the same? -/
def conB (c d : Con) : Bool := eqF c.cells d.cells && (eqF c.wipes d.wipes && eqF c.sibs d.sibs)
theorem conB_iff (c d : Con) : conB c d = true ↔ c = d := by
  unfold conB
  rw [Bool.and_eq_true, Bool.and_eq_true, eqF_iff, eqF_iff, eqF_iff]
  constructor
  · rintro ⟨h1, h2, h3⟩
    cases c
    cases d
    simp only at h1 h2 h3
    rw [h1, h2, h3]
  · rintro rfl
    exact ⟨rfl, rfl, rfl⟩
/-- What is in one content and adds something to another one. -/
def missF (x y : Con) : List Mu := (allF x).filter fun m => !conB (addC y m) y
theorem mem_missF {x y : Con} {m : Mu} : m ∈ missF x y ↔ m ∈ x.all ∧ ¬ addC y m = y := by
  unfold missF
  rw [List.mem_filter, mem_allF, Bool.not_eq_true', ← Bool.not_eq_true, conB_iff]
theorem foldl_addC (k l : List Mu) : l.foldl addC (leftOf k) = leftOf (k ++ l) := by
  induction l generalizing k with
  | nil => rw [List.append_nil]; rfl
  | cons m l ih =>
    rw [List.foldl_cons, addC_left, ih, List.append_assoc]
    rfl
theorem fold_good {c : Con} {n : Nat} (h : Good c n) (l : List Mu) : l.foldl addC c = leftOf (c.all ++ l) := by
  conv => lhs; rw [← h.left]
  exact foldl_addC _ _
/-- What adds nothing to a content adds nothing to that and more. -/
theorem adds_nothing {y : Con} {m : Mu} (h : addC y m = y) (l : List Mu) : leftOf (y.all ++ l ++ [m]) = leftOf (y.all ++ l) := by
  have e : leftOf (y.all ++ l ++ [m]) = leftOf ((y.all ++ [m]) ++ l) := leftOf_congr fun u => by
    simp only [fits_append]
    exact ⟨fun g => g.elim (fun g => g.elim (fun g => Or.inl (Or.inl g)) Or.inr) (fun g => Or.inl (Or.inr g)), fun g => g.elim (fun g => g.elim (fun g => Or.inl (Or.inl g)) Or.inr) (fun g => Or.inl (Or.inr g))⟩
  rw [e, ← leftOf_swallow]
  have h2 : leftOf (y.all ++ [m]) = y := h
  rw [h2]
theorem miss_done {x y : Con} {m : Mu} (hm : m ∈ x.all) : addC (leftOf (y.all ++ missF x y)) m = leftOf (y.all ++ missF x y) := by
  rw [addC_left]
  by_cases h : addC y m = y
  · exact adds_nothing h _
  · have hin : m ∈ missF x y := mem_missF.2 ⟨hm, h⟩
    refine leftOf_congr fun u => ?_
    rw [fits_append]
    unfold Fits
    rw [List.mem_singleton]
    constructor
    · rintro (g | ⟨rfl, g⟩)
      · exact g
      · exact ⟨List.mem_append.2 (Or.inr hin), g⟩
    · exact Or.inl
/-- With what it lacks a content has all of the other one. -/
theorem miss_none (x y : Con) : missF x (leftOf (y.all ++ missF x y)) = [] := by
  apply List.eq_nil_iff_forall_not_mem.2
  intro m hm
  exact (mem_missF.1 hm).2 (miss_done (mem_missF.1 hm).1)
/-- Rows that add nothing may be left out. -/
theorem add_all {y : Con} (h : List Mu) (hs : ∀ m ∈ h, addC y m = y) (l : List Mu) : leftOf (y.all ++ l ++ h) = leftOf (y.all ++ l) := by
  induction h with
  | nil => rw [List.append_nil]
  | cons m h ih =>
    have e : leftOf (y.all ++ l ++ (m :: h)) = leftOf (y.all ++ (l ++ h) ++ [m]) := leftOf_congr fun u => by
      rw [show m :: h = [m] ++ h from rfl]
      simp only [fits_append]
      constructor
      · rintro ((g | g) | g | g)
        · exact Or.inl (Or.inl g)
        · exact Or.inl (Or.inr (Or.inl g))
        · exact Or.inr g
        · exact Or.inl (Or.inr (Or.inr g))
      · rintro ((g | g | g) | g)
        · exact Or.inl (Or.inl g)
        · exact Or.inl (Or.inr g)
        · exact Or.inr (Or.inr g)
        · exact Or.inr (Or.inl g)
    rw [e, adds_nothing (hs m (List.mem_cons_self ..)), ← List.append_assoc, ih fun m hm => hs m (List.mem_cons_of_mem _ hm)]
theorem miss_join (x y : Con) : leftOf (y.all ++ missF x y) = joinC y x := by
  have h1 := add_all (y := y) ((allF x).filter fun m => conB (addC y m) y) (fun m hm => (conB_iff _ _).1 (List.mem_filter.1 hm).2) (missF x y)
  rw [← h1]
  unfold joinC
  refine leftOf_congr fun u => ?_
  have key : ∀ u, u ∈ x.all ↔ u ∈ missF x y ∨ u ∈ (allF x).filter fun m => conB (addC y m) y := fun u => by
    rw [mem_missF, List.mem_filter, mem_allF, conB_iff]
    constructor
    · intro h
      by_cases g : addC y u = y
      · exact Or.inr ⟨h, g⟩
      · exact Or.inl ⟨h, g⟩
    · exact fun h => h.elim (fun g => g.1) (fun g => g.1)
  unfold Fits
  rw [List.mem_append, List.mem_append, List.mem_append, key u, or_assoc]

/-! ## Joins of many -/
theorem joinC_fold (k : List Mu) (l : List Con) : l.foldl joinC (leftOf k) = leftOf (k ++ l.flatMap Con.all) := by
  induction l generalizing k with
  | nil => rw [List.flatMap_nil, List.append_nil]; rfl
  | cons c l ih =>
    rw [List.foldl_cons, List.flatMap_cons, ← List.append_assoc, ← ih]
    unfold joinC
    rw [leftOf_swallow]
theorem empty_left : leftOf [] = ⟨[], [], []⟩ := by rfl
theorem join_many (l : List Con) : l.foldl joinC ⟨[], [], []⟩ = leftOf (l.flatMap Con.all) := by
  rw [← empty_left, joinC_fold, List.nil_append]
theorem join_perm {l k : List Con} (h : l.Perm k) : l.foldl joinC ⟨[], [], []⟩ = k.foldl joinC ⟨[], [], []⟩ := by
  rw [join_many, join_many]
  refine leftOf_congr fun u => ?_
  unfold Fits
  rw [List.mem_flatMap, List.mem_flatMap]
  exact and_congr_left fun _ => ⟨fun ⟨c, h1, h2⟩ => ⟨c, h.mem_iff.1 h1, h2⟩, fun ⟨c, h1, h2⟩ => ⟨c, h.mem_iff.2 h1, h2⟩⟩
theorem join_good : ∀ (l : List Con) (c : Con) (n k : Nat), Good c n → (∀ d ∈ l, Good d k) → Good (l.foldl joinC c) (n + k * l.length)
  | [], c, n, k, h, _ => by simpa using h
  | d :: l, c, n, k, h, g => by
    have := join_good l (joinC c d) (n + k) k (joinC_good h (g d (List.mem_cons_self ..))) fun e he => g e (List.mem_cons_of_mem _ he)
    refine this.more ?_
    rw [List.length_cons, Nat.mul_add]
    omega
end Go.Proofs.YthdbilggnjjkhaaGreatDoor.Mut
