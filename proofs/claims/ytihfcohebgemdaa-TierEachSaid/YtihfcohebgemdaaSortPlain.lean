/- Insertion sort over a row of ints (as functions of places), in plain Lean: it sorts by any strict total order that agrees with the comparison wherever the greater number stands behind. No Go in sight. -/
import Derived.WalkKit
namespace Go.Proofs.Ytihfcohebgemdaa.Sort

def swp (f : Nat → Int) (i j : Nat) : Nat → Int := fun k => if k = i then f j else if k = j then f i else f k
/-- One element, moved down from j to where it belongs, no further than a. -/
def bub (lt : Int → Int → Bool) (a : Nat) : Nat → (Nat → Int) → (Nat → Int)
  | 0, f => f
  | j + 1, f => if decide (a < j + 1) && lt (f (j + 1)) (f j) then bub lt a j (swp f (j + 1) j) else f
def isort (lt : Int → Int → Bool) (a : Nat) : Nat → Nat → (Nat → Int) → (Nat → Int)
  | 0, _, f => f
  | m + 1, i, f => isort lt a m (i + 1) (bub lt a i f)

def On (r : Int → Int → Prop) (f : Nat → Int) (a b : Nat) : Prop := ∀ p q, a ≤ p → p < q → q < b → r (f p) (f q)
def Same (f g : Nat → Int) (a b : Nat) : Prop := (∀ v, (∃ k, a ≤ k ∧ k < b ∧ f k = v) ↔ (∃ k, a ≤ k ∧ k < b ∧ g k = v)) ∧ ∀ k, k < a ∨ b ≤ k → f k = g k
theorem Same.refl (f : Nat → Int) (a b : Nat) : Same f f a b := ⟨fun _ => Iff.rfl, fun _ _ => rfl⟩
theorem Same.trans {f g h : Nat → Int} {a b : Nat} (h1 : Same f g a b) (h2 : Same g h a b) : Same f h a b := ⟨fun v => (h1.1 v).trans (h2.1 v), fun k hk => (h1.2 k hk).trans (h2.2 k hk)⟩
theorem Same.symm {f g : Nat → Int} {a b : Nat} (h : Same f g a b) : Same g f a b := ⟨fun v => (h.1 v).symm, fun k hk => (h.2 k hk).symm⟩
theorem Same.wide {f g : Nat → Int} {a b a' b' : Nat} (h : Same f g a b) (ha : a' ≤ a) (hb : b ≤ b') : Same f g a' b' := by
  refine ⟨fun v => ⟨?_, ?_⟩, fun k hk => h.2 k (by omega)⟩
  · rintro ⟨k, h1, h2, h3⟩
    by_cases hk : a ≤ k ∧ k < b
    · obtain ⟨k', q1, q2, q3⟩ := (h.1 v).1 ⟨k, hk.1, hk.2, h3⟩
      exact ⟨k', by omega, by omega, q3⟩
    · exact ⟨k, h1, h2, by rw [← h.2 k (by omega)]; exact h3⟩
  · rintro ⟨k, h1, h2, h3⟩
    by_cases hk : a ≤ k ∧ k < b
    · obtain ⟨k', q1, q2, q3⟩ := (h.1 v).2 ⟨k, hk.1, hk.2, h3⟩
      exact ⟨k', by omega, by omega, q3⟩
    · exact ⟨k, h1, h2, by rw [h.2 k (by omega)]; exact h3⟩
theorem swp_same (f : Nat → Int) {i j a b : Nat} (hi : a ≤ i ∧ i < b) (hj : a ≤ j ∧ j < b) : Same f (swp f i j) a b := by
  refine ⟨fun v => ⟨?_, ?_⟩, fun k hk => ?_⟩
  · rintro ⟨k, h1, h2, rfl⟩
    by_cases e1 : k = i
    · subst e1
      by_cases e2 : j = k
      · subst e2; exact ⟨j, h1, h2, by simp [swp]⟩
      · exact ⟨j, hj.1, hj.2, by simp [swp, e2]⟩
    · by_cases e2 : k = j
      · subst e2; exact ⟨i, hi.1, hi.2, by simp [swp]⟩
      · exact ⟨k, h1, h2, by simp [swp, e1, e2]⟩
  · rintro ⟨k, h1, h2, rfl⟩
    by_cases e1 : k = i
    · subst e1; exact ⟨j, hj.1, hj.2, by simp [swp]⟩
    · by_cases e2 : k = j
      · subst e2; exact ⟨i, hi.1, hi.2, by simp [swp, e1]⟩
      · exact ⟨k, h1, h2, by simp [swp, e1, e2]⟩
  · have e1 : k ≠ i := by omega
    have e2 : k ≠ j := by omega
    simp [swp, e1, e2]

/-- What the element that is moved down meets: sorted ahead of it, and behind it, all of it together. -/
theorem bub_sorts {lt : Int → Int → Bool} {r : Int → Int → Prop} {a : Nat} (j : Nat) : ∀ (f : Nat → Int) (b : Nat), a ≤ j → j < b →
    (∀ x y z, r x y → r y z → r x z) →
    On r f a j → On r f j b → (∀ p q, a ≤ p → p < j → j < q → q < b → r (f p) (f q)) →
    (∀ p, a ≤ p → p < j → (lt (f j) (f p) = true → r (f j) (f p)) ∧ (lt (f j) (f p) = false → r (f p) (f j))) →
    On r (bub lt a j f) a b ∧ Same f (bub lt a j f) a b := by
  induction j with
  | zero =>
    intro f b ha hb ht h1 h2 h3 h4
    obtain rfl : a = 0 := by omega
    exact ⟨h2, Same.refl _ _ _⟩
  | succ j ih =>
    intro f b ha hb ht h1 h2 h3 h4
    unfold bub
    by_cases haj : a < j + 1
    · cases hl : lt (f (j + 1)) (f j)
      · rw [if_neg (by simp)]
        refine ⟨fun p q hp hpq hq => ?_, Same.refl _ _ _⟩
        have hj := (h4 j (by omega) (by omega)).2 hl
        have hpj : ∀ p, a ≤ p → p < j + 1 → r (f p) (f (j + 1)) := fun p hp hpj => by
          by_cases e : p = j
          · subst e; exact hj
          · exact ht _ _ _ (h1 p j hp (by omega) (by omega)) hj
        by_cases c1 : q < j + 1
        · exact h1 p q hp hpq c1
        · by_cases c2 : p < j + 1
          · by_cases c3 : q = j + 1
            · subst c3; exact hpj p hp c2
            · exact ht _ _ _ (hpj p hp c2) (h2 (j + 1) q (by omega) (by omega) hq)
          · exact h2 p q (by omega) hpq hq
      · rw [if_pos (by simp [haj])]
        have hj := (h4 j (by omega) (by omega)).1 hl
        have e0 : swp f (j + 1) j j = f (j + 1) := by simp [swp]
        have e1 : swp f (j + 1) j (j + 1) = f j := by simp [swp]
        have e2 : ∀ k, k ≠ j → k ≠ j + 1 → swp f (j + 1) j k = f k := fun k hk1 hk2 => by simp [swp, hk1, hk2]
        have g1 : On r (swp f (j + 1) j) a j := by
          intro p q hp hpq hq
          rw [e2 p (by omega) (by omega), e2 q (by omega) (by omega)]
          exact h1 p q hp hpq (by omega)
        have g2 : On r (swp f (j + 1) j) j b := by
          intro p q hp hpq hq
          by_cases c1 : p = j
          · subst c1
            rw [e0]
            by_cases c2 : q = p + 1
            · subst c2; rw [e1]; exact hj
            · rw [e2 q (by omega) (by omega)]; exact h2 (p + 1) q (by omega) (by omega) hq
          · by_cases c2 : p = j + 1
            · subst c2
              rw [e1, e2 q (by omega) (by omega)]
              exact h3 j q (by omega) (by omega) (by omega) hq
            · rw [e2 p (by omega) (by omega), e2 q (by omega) (by omega)]
              exact h2 p q (by omega) hpq hq
        have g3 : ∀ p q, a ≤ p → p < j → j < q → q < b → r (swp f (j + 1) j p) (swp f (j + 1) j q) := by
          intro p q hp hpj hjq hq
          rw [e2 p (by omega) (by omega)]
          by_cases c2 : q = j + 1
          · subst c2; rw [e1]; exact h1 p j hp (by omega) (by omega)
          · rw [e2 q (by omega) (by omega)]; exact h3 p q hp (by omega) (by omega) hq
        have g4 : ∀ p, a ≤ p → p < j → (lt (swp f (j + 1) j j) (swp f (j + 1) j p) = true → r (swp f (j + 1) j j) (swp f (j + 1) j p)) ∧ (lt (swp f (j + 1) j j) (swp f (j + 1) j p) = false → r (swp f (j + 1) j p) (swp f (j + 1) j j)) := by
          intro p hp hpj
          rw [e0, e2 p (by omega) (by omega)]
          exact h4 p hp (by omega)
        obtain ⟨q1, q2⟩ := ih (swp f (j + 1) j) b (by omega) (by omega) ht g1 g2 g3 g4
        exact ⟨q1, (swp_same f ⟨by omega, by omega⟩ ⟨by omega, by omega⟩).trans q2⟩
    · rw [if_neg (by simp [haj])]
      obtain rfl : a = j + 1 := by omega
      exact ⟨h2, Same.refl _ _ _⟩

theorem bub_same {lt : Int → Int → Bool} {a : Nat} (j : Nat) : ∀ (f : Nat → Int) (b : Nat), j < b → a ≤ j → Same f (bub lt a j f) a b := by
  induction j with
  | zero => intro f b _ _; exact Same.refl _ _ _
  | succ j ih =>
    intro f b hb ha
    unfold bub
    split
    · rename_i h
      simp only [Bool.and_eq_true, decide_eq_true_eq] at h
      exact (swp_same f ⟨by omega, hb⟩ ⟨by omega, by omega⟩).trans (ih _ b (by omega) (by omega))
    · exact Same.refl _ _ _

/-- The whole sort: numbers rise at the start; the comparison agrees with r wherever the greater number is held against the lesser one. -/
theorem isort_sorts {lt : Int → Int → Bool} {r : Int → Int → Prop} {a b : Nat} (m : Nat) : ∀ (i : Nat) (f : Nat → Int), a < i → i + m = b →
    (∀ x y z, r x y → r y z → r x z) → (∀ x y : Int, y < x → (lt x y = true → r x y) ∧ (lt x y = false → r y x)) →
    On r f a i → (∀ p q, a ≤ p → p < q → i ≤ q → q < b → f p < f q) →
    On r (isort lt a m i f) a b ∧ Same f (isort lt a m i f) a b := by
  induction m with
  | zero =>
    intro i f ha hb ht hl h1 h2
    obtain rfl : i = b := by omega
    exact ⟨h1, Same.refl _ _ _⟩
  | succ m ih =>
    intro i f ha hb ht hl h1 h2
    unfold isort
    have hbub := bub_sorts (lt := lt) (r := r) (a := a) i f (i + 1) (by omega) (by omega) ht h1 (fun p q hp hpq hq => by omega) (fun p q hp hpi hiq hq => by omega)
      (fun p hp hpi => hl _ _ (h2 p i hp hpi (by omega) (by omega)))
    obtain ⟨s1, s2⟩ := hbub
    obtain ⟨q1, q2⟩ := ih (i + 1) (bub lt a i f) (by omega) (by omega) ht hl s1 (fun p q hp hpq hiq hq => by
      have eq : bub lt a i f q = f q := (s2.2 q (by omega)).symm
      rw [eq]
      by_cases c : p < i + 1
      · obtain ⟨k, k1, k2, k3⟩ := (s2.1 (bub lt a i f p)).2 ⟨p, hp, c, rfl⟩
        rw [← k3]
        exact h2 k q k1 (by omega) (by omega) hq
      · have ep : bub lt a i f p = f p := (s2.2 p (by omega)).symm
        rw [ep]
        exact h2 p q hp hpq (by omega) hq)
    exact ⟨q1, (s2.wide (Nat.le_refl _) (by omega)).trans q2⟩
end Go.Proofs.Ytihfcohebgemdaa.Sort
