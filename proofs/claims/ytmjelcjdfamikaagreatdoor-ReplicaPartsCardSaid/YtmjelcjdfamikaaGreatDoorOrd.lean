/- Comparisons in plain Lean: of numbers, texts, rows, one behind the other: total orders whose 0 is equality. -/
import Derived.Test.YtmjelcjdfamikaaGreatDoorCalmTail
set_option linter.unusedSimpArgs false
set_option linter.unusedVariables false
namespace Go.Proofs.YtmjelcjdfamikaaGreatDoor.Ord

def cmpI (a b : Int) : Int := if a < b then -1 else if b < a then 1 else 0
def lessS (a b : ByteArray) : Bool := Op.bytesLess a.toList b.toList
def cmpS (a b : ByteArray) : Int := if lessS a b then -1 else if !lessS a b && !(a.toList == b.toList) then 1 else 0
/-- the first that is not 0 -/
def orL : List Int → Int
  | [] => 0
  | x :: l => if x = 0 then orL l else x
/-- Rows: place by place; of two of which one begins the other the shorter one is ahead. -/
def rowC {α : Type} (c : α → α → Int) : List α → List α → Int
  | [], [] => 0
  | [], _ :: _ => -1
  | _ :: _, [] => 1
  | x :: a, y :: b => if c x y = 0 then rowC c a b else c x y

theorem less_irrefl (a : List UInt8) : Op.bytesLess a a = false := by
  induction a with
  | nil => rfl
  | cons x a ih => simp [Op.bytesLess, ih]
theorem less_trans : ∀ (a b c : List UInt8), Op.bytesLess a b = true → Op.bytesLess b c = true → Op.bytesLess a c = true
  | _, [], _, h, _ => by cases ‹List UInt8› <;> simp [Op.bytesLess] at h
  | _, _ :: _, [], _, h => by simp [Op.bytesLess] at h
  | [], _ :: _, _ :: _, _, _ => by simp [Op.bytesLess]
  | x :: a, y :: b, z :: c, h1, h2 => by
    simp only [Op.bytesLess, Bool.or_eq_true, Bool.and_eq_true, decide_eq_true_eq, beq_iff_eq] at h1 h2 ⊢
    rcases h1 with h1 | ⟨rfl, h1⟩
    · rcases h2 with h2 | ⟨rfl, h2⟩
      · exact Or.inl (UInt8.lt_trans h1 h2)
      · exact Or.inl h1
    · rcases h2 with h2 | ⟨rfl, h2⟩
      · exact Or.inl h2
      · exact Or.inr ⟨rfl, less_trans a b c h1 h2⟩
theorem less_total : ∀ (a b : List UInt8), Op.bytesLess a b = true ∨ a = b ∨ Op.bytesLess b a = true
  | [], [] => Or.inr (Or.inl rfl)
  | [], _ :: _ => Or.inl rfl
  | _ :: _, [] => Or.inr (Or.inr rfl)
  | x :: a, y :: b => by
    simp only [Op.bytesLess, Bool.or_eq_true, Bool.and_eq_true, decide_eq_true_eq, beq_iff_eq, List.cons.injEq]
    have ht : x < y ∨ x = y ∨ y < x := by
      by_cases h1 : x < y
      · exact Or.inl h1
      · by_cases h2 : y < x
        · exact Or.inr (Or.inr h2)
        · exact Or.inr (Or.inl (UInt8.le_antisymm (UInt8.not_lt.1 h2) (UInt8.not_lt.1 h1)))
    rcases ht with h | rfl | h
    · exact Or.inl (Or.inl h)
    · rcases less_total a b with h | rfl | h
      · exact Or.inl (Or.inr ⟨rfl, h⟩)
      · exact Or.inr (Or.inl ⟨rfl, rfl⟩)
      · exact Or.inr (Or.inr (Or.inr ⟨rfl, h⟩))
    · exact Or.inr (Or.inr (Or.inl h))
theorem less_asymm {a b : List UInt8} (h : Op.bytesLess a b = true) : Op.bytesLess b a = false := by
  cases e : Op.bytesLess b a with
  | false => rfl
  | true => have := less_trans _ _ _ e h; rw [less_irrefl] at this; cases this
theorem less_ne {a b : List UInt8} (h : Op.bytesLess a b = true) : a ≠ b := fun e => by rw [e, less_irrefl] at h; cases h
theorem bytes_ext {a b : ByteArray} (h : a.toList = b.toList) : a = b := by
  rw [ByteArray.toList_eq, ByteArray.toList_eq] at h
  exact ByteArray.ext (Array.toList_inj.1 h)
theorem bytes_iff {a b : ByteArray} : a.toList = b.toList ↔ a = b := ⟨bytes_ext, fun h => by rw [h]⟩
theorem cmpS_lt (a b : ByteArray) : cmpS a b < 0 ↔ Op.bytesLess a.toList b.toList = true := by
  unfold cmpS lessS
  cases h : Op.bytesLess a.toList b.toList
  · simp; split <;> omega
  · simp
theorem cmpS_gt (a b : ByteArray) : 0 < cmpS a b ↔ Op.bytesLess b.toList a.toList = true := by
  unfold cmpS lessS
  rcases less_total a.toList b.toList with h | h | h
  · simp [h, less_asymm h]
  · simp [h, less_irrefl]
  · simp [h, less_asymm h, (less_ne h).symm]

/-- A total order, told by a number: below 0, 0, above 0; 0 just at the same. -/
structure Tot {α : Type} (c : α → α → Int) : Prop where
  zero : ∀ a b, c a b = 0 ↔ a = b
  swap : ∀ a b, c a b < 0 ↔ 0 < c b a
  trans : ∀ a b d, c a b < 0 → c b d < 0 → c a d < 0
namespace Tot
variable {α β : Type} {c : α → α → Int} {c2 : β → β → Int}
theorem self (h : Tot c) (a : α) : c a a = 0 := (h.zero a a).2 rfl
theorem irrefl (h : Tot c) (a : α) : ¬ c a a < 0 := by rw [h.self]; omega
theorem asymm (h : Tot c) {a b : α} (h1 : c a b < 0) : ¬ c b a < 0 := fun h2 => h.irrefl a (h.trans _ _ _ h1 h2)
theorem le_of (h : Tot c) {a b : α} : ¬ c a b < 0 ↔ c b a ≤ 0 := by
  have := h.swap a b
  constructor <;> intro h1 <;> omega
theorem total (h : Tot c) (a b : α) : c a b < 0 ∨ a = b ∨ c b a < 0 := by
  have h1 := h.zero a b
  have h2 := h.swap b a
  by_cases e : c a b = 0
  · exact Or.inr (Or.inl (h1.1 e))
  · omega
theorem le_lt (h : Tot c) {a b d : α} (h1 : c a b ≤ 0) (h2 : c b d < 0) : c a d < 0 := by
  by_cases e : c a b = 0
  · rw [(h.zero a b).1 e]; exact h2
  · exact h.trans _ _ _ (by omega) h2
theorem lt_le (h : Tot c) {a b d : α} (h1 : c a b < 0) (h2 : c b d ≤ 0) : c a d < 0 := by
  by_cases e : c b d = 0
  · rw [← (h.zero b d).1 e]; exact h1
  · exact h.trans _ _ _ h1 (by omega)
theorem le_le (h : Tot c) {a b d : α} (h1 : c a b ≤ 0) (h2 : c b d ≤ 0) : c a d ≤ 0 := by
  by_cases e : c a b = 0
  · rw [(h.zero a b).1 e]; exact h2
  · have := h.lt_le (a := a) (b := b) (by omega) h2; omega
theorem anti (h : Tot c) {a b : α} (h1 : c a b ≤ 0) (h2 : c b a ≤ 0) : a = b := by
  have := h.swap a b
  have := h.swap b a
  exact (h.zero a b).1 (by omega)

theorem int : Tot cmpI := ⟨fun a b => by unfold cmpI; repeat' split; all_goals omega, fun a b => by unfold cmpI; repeat' split; all_goals omega, fun a b d => by unfold cmpI; repeat' split; all_goals omega⟩
theorem str : Tot cmpS := by
  have z : ∀ a b, cmpS a b = 0 ↔ a = b := by
    intro a b
    rw [← bytes_iff]
    have h1 := cmpS_lt a b
    have h2 := cmpS_gt a b
    rcases less_total a.toList b.toList with h | h | h
    · have := h1.2 h; constructor
      · omega
      · intro e; exact absurd e (less_ne h)
    · constructor
      · intro _; exact h
      · intro _
        rw [h, less_irrefl] at h1 h2
        simp at h1 h2; omega
    · have := h2.2 h; constructor
      · omega
      · intro e; exact absurd e.symm (less_ne h)
  exact ⟨z, fun a b => by rw [cmpS_lt, cmpS_gt], fun a b d h1 h2 => by rw [cmpS_lt] at *; exact less_trans _ _ _ h1 h2⟩

/-- First by the one, then by the other. -/
def lex (c : α → α → Int) (c2 : β → β → Int) (a b : α × β) : Int := if c a.1 b.1 = 0 then c2 a.2 b.2 else c a.1 b.1
theorem lexed (h : Tot c) (h2 : Tot c2) : Tot (lex c c2) := by
  refine ⟨?_, ?_, ?_⟩
  · rintro ⟨a, x⟩ ⟨b, y⟩
    show (if c a b = 0 then c2 x y else c a b) = 0 ↔ _
    rw [Prod.mk.injEq, ← h.zero a b, ← h2.zero x y]
    split <;> omega
  · rintro ⟨a, x⟩ ⟨b, y⟩
    show (if c a b = 0 then c2 x y else c a b) < 0 ↔ 0 < (if c b a = 0 then c2 y x else c b a)
    have s := h.swap a b
    have s2 := h.swap b a
    have s3 := h2.swap x y
    repeat' split
    all_goals omega
  · rintro ⟨a, x⟩ ⟨b, y⟩ ⟨d, z⟩
    show (if c a b = 0 then c2 x y else c a b) < 0 → (if c b d = 0 then c2 y z else c b d) < 0 → (if c a d = 0 then c2 x z else c a d) < 0
    intro h1 h3
    by_cases e1 : c a b = 0
    · obtain rfl := (h.zero a b).1 e1
      rw [if_pos e1] at h1
      by_cases e2 : c a d = 0
      · rw [if_pos e2] at h3 ⊢; exact h2.trans _ _ _ h1 h3
      · rw [if_neg e2] at h3 ⊢; exact h3
    · rw [if_neg e1] at h1
      by_cases e2 : c b d = 0
      · obtain rfl := (h.zero b d).1 e2
        rw [if_neg e1]; exact h1
      · rw [if_neg e2] at h3
        have := h.trans _ _ _ h1 h3
        rw [if_neg (by omega)]; exact this
theorem pull (h : Tot c) (f : β → α) (hf : ∀ a b, f a = f b → a = b) : Tot fun a b => c (f a) (f b) :=
  ⟨fun a b => (h.zero _ _).trans ⟨hf a b, fun e => by rw [e]⟩, fun a b => h.swap _ _, fun a b d => h.trans _ _ _⟩

theorem row (h : Tot c) : Tot (rowC c) := by
  refine ⟨?_, ?_, ?_⟩
  · intro a
    induction a with
    | nil => intro b; cases b <;> simp [rowC]
    | cons x a ih =>
      intro b
      cases b with
      | nil => simp [rowC]
      | cons y b =>
        rw [rowC, List.cons.injEq, ← h.zero x y, ← ih b]
        split <;> omega
  · intro a
    induction a with
    | nil => intro b; cases b <;> simp [rowC]
    | cons x a ih =>
      intro b
      cases b with
      | nil => simp [rowC]
      | cons y b =>
        rw [rowC, rowC]
        have s := h.swap x y
        have s2 := h.swap y x
        have s3 := ih b
        repeat' split
        all_goals omega
  · intro a
    induction a with
    | nil =>
      intro b d
      cases b <;> cases d <;> simp [rowC]
    | cons x a ih =>
      intro b d
      cases b with
      | nil => cases d <;> simp [rowC]
      | cons y b =>
        cases d with
        | nil => simp [rowC]
        | cons z d =>
          rw [rowC, rowC, rowC]
          intro h1 h3
          by_cases e1 : c x y = 0
          · obtain rfl := (h.zero x y).1 e1
            rw [if_pos e1] at h1
            by_cases e2 : c x z = 0
            · rw [if_pos e2] at h3 ⊢; exact ih _ _ h1 h3
            · rw [if_neg e2] at h3 ⊢; exact h3
          · rw [if_neg e1] at h1
            by_cases e2 : c y z = 0
            · obtain rfl := (h.zero y z).1 e2
              rw [if_neg e1]; exact h1
            · rw [if_neg e2] at h3
              have := h.trans _ _ _ h1 h3
              rw [if_neg (by omega)]; exact this
end Tot

/-! Rising rows: each element ahead of the next; what has the same elements is the same row. -/
def Rises {α : Type} (c : α → α → Int) (l : List α) : Prop := l.Pairwise fun a b => c a b < 0
theorem Rises.unique {α : Type} {c : α → α → Int} (h : Tot c) {l m : List α} (hl : Rises c l) (hm : Rises c m) (e : ∀ x, x ∈ l ↔ x ∈ m) : l = m := by
  induction l generalizing m with
  | nil =>
    cases m with
    | nil => rfl
    | cons y m => exact absurd ((e y).2 (by simp)) (by simp)
  | cons x l ih =>
    cases m with
    | nil => exact absurd ((e x).1 (by simp)) (by simp)
    | cons y m =>
      obtain ⟨hx, hl'⟩ := List.pairwise_cons.1 hl
      obtain ⟨hy, hm'⟩ := List.pairwise_cons.1 hm
      have exy : x = y := by
        rcases List.mem_cons.1 ((e x).1 (by simp)) with h1 | h1
        · exact h1
        · rcases List.mem_cons.1 ((e y).2 (by simp)) with h2 | h2
          · exact h2.symm
          · exact absurd (hx y h2) (h.asymm (hy x h1))
      subst exy
      refine congrArg (x :: ·) (ih hl' hm' fun z => ?_)
      constructor
      · intro hz
        rcases List.mem_cons.1 ((e z).1 (List.mem_cons_of_mem _ hz)) with h1 | h1
        · subst h1; exact absurd (hx z hz) (h.irrefl z)
        · exact h1
      · intro hz
        rcases List.mem_cons.1 ((e z).2 (List.mem_cons_of_mem _ hz)) with h1 | h1
        · subst h1; exact absurd (hy z hz) (h.irrefl z)
        · exact h1
end Go.Proofs.YtmjelcjdfamikaaGreatDoor.Ord
