/- The reference's See (layer 9), in plain Lean: rows of values by keys; they are what is shown of what is left. -/
import Derived.Test.YtmfhmcegmeinnaaGreatDoorViewPlain
set_option linter.unusedSimpArgs false
set_option linter.unusedVariables false
namespace Go.Proofs.YtmfhmcegmeinnaaGreatDoor.Mut
open Go.Proofs.YtmfhmcegmeinnaaGreatDoor.Ord
set_option linter.unusedSectionVars false
variable [Inhabited Lim]

/-- A value that one sees. -/
structure Rw where
  key : ByteArray
  val : ByteArray
  at_ : Stp
def rwOf (m : Mu) : Rw := ⟨m.key, m.val, m.at_⟩
/-- A row by keys, with one more, behind those of the same key. -/
def bkW (x : Rw) : Bool → List Rw → List Rw
  | inn, [] => if inn then [] else [x]
  | inn, y :: t => (if !inn && lessS x.key y.key then [x] else []) ++ (y :: bkW x (inn || (!inn && lessS x.key y.key)) t)
theorem bkW_map (x : Ro) (R : List Ro) : ∀ inn, (bkRo x inn R).map (fun y => rwOf y.1) = bkW (rwOf x.1) inn (R.map fun y => rwOf y.1) := by
  induction R with
  | nil => intro inn; cases inn <;> rfl
  | cons y t ih =>
    intro inn
    have e : lessS (rwOf x.1).key (rwOf y.1).key = lessS x.1.key y.1.key := rfl
    simp only [bkRo, bkW, List.map_append, List.map_cons, ih, e]
    congr 1
    split <;> rfl
/-- From a key up to ahead of another one. -/
def inB (from_ to_ : ByteArray) (m : Mu) : Bool := !lessS m.key from_ && lessS m.key to_
def seeB (all : List Mu) (t : Int) (from_ to_ : ByteArray) (phys : Int) (m : Mu) : Bool := visB all t phys m && inB from_ to_ m
def seeRo (f : Mu → Bool) (acc : List Ro) (all : List Mu) : List Ro := all.foldl (fun acc m => if f m then bkRo (m, .slice none 0 0) false acc else acc) acc
def seeW (f : Mu → Bool) (acc : List Rw) (all : List Mu) : List Rw := all.foldl (fun acc m => if f m then bkW (rwOf m) false acc else acc) acc
theorem seeW_eq (f : Mu → Bool) (all : List Mu) : ∀ acc : List Ro, (seeRo f acc all).map (fun y => rwOf y.1) = seeW f (acc.map fun y => rwOf y.1) all := by
  induction all with
  | nil => intro acc; rfl
  | cons m all ih =>
    intro acc
    unfold seeRo seeW at *
    rw [List.foldl_cons, List.foldl_cons, ih]
    cases h : f m
    · rfl
    · simp only [if_true]
      rw [bkW_map]
theorem seeRo_spec (f : Mu → Bool) (all : List Mu) : ∀ acc : List Ro, Rises sibC (acc.map (·.1)) → Rises muC all → (∀ y ∈ acc, ∀ x ∈ all, muC y.1 x < 0) →
    Rises sibC ((seeRo f acc all).map (·.1)) ∧ ∀ m, m ∈ (seeRo f acc all).map (·.1) ↔ m ∈ acc.map (·.1) ∨ (m ∈ all ∧ f m = true) := by
  induction all with
  | nil => intro acc h _ _; exact ⟨h, fun m => by simp [seeRo]⟩
  | cons x all ih =>
    intro acc h hr ha
    unfold Rises at hr
    obtain ⟨h1, h2⟩ := List.pairwise_cons.1 hr
    have e : seeRo f acc (x :: all) = seeRo f (if f x then bkRo (x, .slice none 0 0) false acc else acc) all := rfl
    rw [e]
    cases hf : f x
    · simp only [Bool.false_eq_true, if_false]
      obtain ⟨q1, q2⟩ := ih acc h h2 fun y hy z hz => ha y hy z (List.mem_cons_of_mem _ hz)
      refine ⟨q1, fun m => ?_⟩
      rw [q2, List.mem_cons]
      constructor
      · exact fun g => g.imp id fun g => ⟨Or.inr g.1, g.2⟩
      · rintro (g | ⟨rfl | g, g2⟩)
        · exact Or.inl g
        · rw [hf] at g2; cases g2
        · exact Or.inr ⟨g, g2⟩
    · simp only [if_true]
      have hr2 : Rises sibC ((bkRo (x, .slice none 0 0) false acc).map (·.1)) := by
        exact bkRo_rises sibC (fun a b d => sibO.trans a b d) (fun a b => sib_key) (x, .slice none 0 0) acc h fun y hy hk => sib_same hk (ha y hy x (List.mem_cons_self ..))
      obtain ⟨q1, q2⟩ := ih _ hr2 h2 fun y hy z hz => by
        rcases bkRo_mem _ _ _ y hy with g | rfl
        · exact ha y g z (List.mem_cons_of_mem _ hz)
        · exact h1 z hz
      refine ⟨q1, fun m => ?_⟩
      rw [q2, bkRo_mem_iff, List.mem_cons]
      constructor
      · rintro ((g | g) | g)
        · exact Or.inl g
        · exact Or.inr ⟨Or.inl g, by rw [g]; exact hf⟩
        · exact Or.inr ⟨Or.inr g.1, g.2⟩
      · rintro (g | ⟨g | g, g2⟩)
        · exact Or.inl (Or.inl g)
        · exact Or.inl (Or.inr g)
        · exact Or.inr ⟨g, g2⟩
/-- What the reference sees of a rising row of all that may be is what is shown of what is left of them. -/
theorem see_shown (l all : List Mu) (hr : Rises muC all) (hm : ∀ m, m ∈ all ↔ Fits l m) (t : Int) (from_ to_ : ByteArray) (phys : Int) :
    seeW (seeB all t from_ to_ phys) [] all = ((shownF (leftOf l) t phys).filter (inB from_ to_)).map rwOf := by
  have h := seeRo_spec (seeB all t from_ to_ phys) all [] List.Pairwise.nil hr (fun y hy => by cases hy)
  have e := seeW_eq (seeB all t from_ to_ phys) all []
  rw [List.map_nil] at e
  rw [← e]
  have e2 : (seeRo (seeB all t from_ to_ phys) [] all).map (·.1) = (shownF (leftOf l) t phys).filter (inB from_ to_) := by
    refine Rises.unique sibO h.1 (List.Pairwise.filter _ (shown_rises l t phys)) fun m => ?_
    rw [h.2, List.mem_filter, shown_iff]
    have hv : seeB all t from_ to_ phys m = true ↔ (m.table = t ∧ seenB m phys = true ∧ ∀ y, Fits l y → hiddenB m y = false) ∧ inB from_ to_ m = true := by
      unfold seeB visB
      rw [Bool.and_eq_true, Bool.and_eq_true, Bool.and_eq_true, decide_eq_true_eq, Bool.not_eq_true', List.any_eq_false]
      constructor
      · rintro ⟨⟨g1, g2, g3⟩, g4⟩
        exact ⟨⟨g1, g2, fun y hy => by simpa using g3 y ((hm y).2 hy)⟩, g4⟩
      · rintro ⟨⟨g1, g2, g3⟩, g4⟩
        exact ⟨⟨g1, g2, fun y hy => by simpa using g3 y ((hm y).1 hy)⟩, g4⟩
    rw [hv, hm]
    simp only [List.map_nil, List.not_mem_nil, false_or]
    constructor
    · rintro ⟨g1, g2, g3⟩
      exact ⟨⟨g1, g2.1, g2.2.1, g2.2.2⟩, g3⟩
    · rintro ⟨⟨g1, g2, g3, g4⟩, g5⟩
      exact ⟨g1, ⟨g2, g3, g4⟩, g5⟩
  rw [← e2, List.map_map]
  rfl
end Go.Proofs.YtmfhmcegmeinnaaGreatDoor.Mut
