/- What one sees of contents, and of all mutations that ever came (layer 9), in plain Lean: the same. -/
import Derived.Test.YtmfhmcegmeinnaaGreatDoorSup
set_option linter.unusedSimpArgs false
set_option linter.unusedVariables false
namespace Go.Proofs.YtmfhmcegmeinnaaGreatDoor.Mut
open Go.Proofs.YtmfhmcegmeinnaaGreatDoor.Ord
set_option linter.unusedSectionVars false
variable [Inhabited Lim]

/-- Does one see a mutation, as far as it itself tells? -/
def seenB (m : Mu) (t : Int) : Bool := decide (m.kind = 1) && (decide (m.expiry = 0) || decide (t < m.expiry))
/-- Is it hidden by another one? -/
def hiddenB (m y : Mu) : Bool :=
  decide (m.table = y.table) && (if m.table = 2 then (y.key.toList == m.key.toList) && hasS y.over m.at_ else if y.kind = 3 then hitsB y m.key m.at_ else (y.key.toList == m.key.toList) && decide (muC m y < 0))
/-- The mutations of a table that nothing supersedes. -/
def liveF (c : Con) (t : Int) : List Mu := if t = 2 then c.sibs.filter (fun m => !supF c m.key m.at_) else c.cells.filter (fun m => decide (m.table = t))
def shownF (c : Con) (t phys : Int) : List Mu := (liveF c t).filter fun m => seenB m phys

theorem key_beq {a b : ByteArray} : (a.toList == b.toList) = true ↔ a = b := by
  rw [beq_iff_eq]
  exact ⟨bytes_ext, fun h => by rw [h]⟩
theorem leftOf_says (l : List Mu) : Says (Fits l) (leftOf l).cells (leftOf l).wipes (leftOf l).sibs := by
  have g := fits_says (l.map fun m => ((m, .slice none 0 0) : Ro))
  have e : (l.map fun m => ((m, .slice none 0 0) : Ro)).map (·.1) = l := by
    rw [List.map_map]
    exact List.map_id l
  rw [e] at g
  exact g
theorem right_table {m : Mu} (h : rightF m = true) : m.table = 1 ∨ m.table = 2 := (fit_of h).table
theorem sup_iff (l : List Mu) (key : ByteArray) (s : Stp) : supF (leftOf l) key s = true ↔ ∃ y, Fits l y ∧ y.table = 2 ∧ y.key = key ∧ hasS y.over s = true := by
  unfold supF supM
  rw [List.any_eq_true]
  constructor
  · rintro ⟨y, hy, h⟩
    rw [Bool.and_eq_true, key_beq] at h
    obtain ⟨h1, h2⟩ := ((leftOf_says l).sibs y).1 hy
    exact ⟨y, h1, h2, h.1, h.2⟩
  · rintro ⟨y, h1, h2, h3, h4⟩
    exact ⟨y, ((leftOf_says l).sibs y).2 ⟨h1, h2⟩, by rw [Bool.and_eq_true, key_beq]; exact ⟨h3, h4⟩⟩
/-- One sees of a content what nothing hides of all that came. -/
theorem shown_iff (l : List Mu) (t phys : Int) (m : Mu) : m ∈ shownF (leftOf l) t phys ↔ Fits l m ∧ m.table = t ∧ seenB m phys = true ∧ ∀ y, Fits l y → hiddenB m y = false := by
  have hs := leftOf_says l
  unfold shownF liveF
  by_cases ht : t = 2
  · subst ht
    rw [if_pos rfl, List.mem_filter, List.mem_filter, hs.sibs, Bool.not_eq_true', ← Bool.not_eq_true, sup_iff]
    constructor
    · rintro ⟨⟨⟨h1, h2⟩, h3⟩, h4⟩
      refine ⟨h1, h2, h4, fun y hy => ?_⟩
      have h2' : m.table = 2 := h2
      unfold hiddenB
      rw [h2', if_pos rfl]
      cases e : decide ((2 : Int) = y.table) && ((y.key.toList == m.key.toList) && hasS y.over m.at_) with
      | false => rfl
      | true =>
        rw [Bool.and_eq_true, Bool.and_eq_true, decide_eq_true_eq, key_beq] at e
        exact absurd ⟨y, hy, e.1.symm, e.2.1, e.2.2⟩ h3
    · rintro ⟨h1, h2, h3, h4⟩
      refine ⟨⟨⟨h1, h2⟩, ?_⟩, h3⟩
      rintro ⟨y, hy, e1, e2, e3⟩
      have := h4 y hy
      unfold hiddenB at this
      rw [h2, if_pos rfl, e1, (key_beq (a := y.key) (b := m.key)).2 e2, e3] at this
      exact absurd this (by decide)
  · rw [if_neg ht, List.mem_filter, List.mem_filter, hs.cells, decide_eq_true_eq]
    constructor
    · rintro ⟨⟨⟨h1, h2, h3, h4⟩, h5⟩, h6⟩
      refine ⟨h1, h5, h6, fun y hy => ?_⟩
      unfold hiddenB
      rw [h5, if_neg ht]
      by_cases hy3 : y.kind = 3
      · rw [if_pos hy3]
        cases e : hitsB y m.key m.at_ with
        | false => simp
        | true => exact absurd ((hits_iff _ _ _).2 e) (h3 y hy)
      · rw [if_neg hy3]
        cases e : decide (t = y.table) && ((y.key.toList == m.key.toList) && decide (muC m y < 0)) with
        | false => rfl
        | true =>
          rw [Bool.and_eq_true, Bool.and_eq_true, decide_eq_true_eq, key_beq, decide_eq_true_eq] at e
          exact absurd e.2.2 (h4 y hy ⟨by rw [← e.1]; exact ht, hy3⟩ e.2.1)
    · rintro ⟨h1, h2, h3, h4⟩
      have hm2 : ¬ m.table = 2 := by rw [h2]; exact ht
      have hm1 : m.table = 1 := (right_table h1.2).resolve_right hm2
      have hk : m.kind = 1 := by
        unfold seenB at h3
        rw [Bool.and_eq_true, decide_eq_true_eq] at h3
        exact h3.1
      refine ⟨⟨⟨h1, ⟨hm2, by omega⟩, fun w hw hh => ?_, fun y hy hc hkey hlt => ?_⟩, h2⟩, h3⟩
      · have hw3 : w.kind = 3 := hh.1.1
        have hw1 : w.table = 1 := ((fit_of hw.2).wipe hw3).1
        have := h4 w hw
        unfold hiddenB at this
        rw [if_neg hm2, if_pos hw3, (hits_iff _ _ _).1 hh, hm1, hw1] at this
        exact absurd this (by decide)
      · have hy1 : y.table = 1 := (right_table hy.2).resolve_right hc.1
        have := h4 y hy
        unfold hiddenB at this
        rw [if_neg hm2, if_neg hc.2, (key_beq (a := y.key) (b := m.key)).2 hkey, decide_eq_true hlt, hm1, hy1] at this
        exact absurd this (by decide)
theorem shown_rises (l : List Mu) (t phys : Int) : Rises sibC (shownF (leftOf l) t phys) := by
  have h := (leftOf_both l).1
  unfold shownF liveF
  split
  · exact List.Pairwise.filter _ (List.Pairwise.filter _ h.rs)
  · refine List.Pairwise.filter _ (List.Pairwise.filter _ ?_)
    have := h.rc
    unfold Rises keyC at this
    refine this.imp fun {a b} hab => ?_
    exact sib_key hab

/-! ## The reference: all that nothing hides, by keys -/
def visB (l : List Mu) (t phys : Int) (m : Mu) : Bool := decide (m.table = t) && (seenB m phys && !l.any (hiddenB m))
/-- Two rows of mutations show the same if the same are seen. -/
theorem shown_same {l k : List Mu} {t phys : Int} (h : ∀ m, (Fits l m ∧ m.table = t ∧ seenB m phys = true ∧ ∀ y, Fits l y → hiddenB m y = false) ↔ (Fits k m ∧ m.table = t ∧ seenB m phys = true ∧ ∀ y, Fits k y → hiddenB m y = false)) :
    shownF (leftOf l) t phys = shownF (leftOf k) t phys :=
  Rises.unique sibO (shown_rises l t phys) (shown_rises k t phys) fun m => by rw [shown_iff, shown_iff]; exact h m
end Go.Proofs.YtmfhmcegmeinnaaGreatDoor.Mut
