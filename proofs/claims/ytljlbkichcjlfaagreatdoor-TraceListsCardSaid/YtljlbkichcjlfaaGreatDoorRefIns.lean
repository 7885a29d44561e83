/- The walks of cenotaphref07.Insert, cenotaphref08.set (layers 7, 8). -/
import Derived.Test.YtljlbkichcjlfaaGreatDoorRefCompare
import Derived.Test.YtljlbkichcjlfaaGreatDoorConMore
set_option linter.unusedSimpArgs false
set_option linter.unusedVariables false
namespace Go.Proofs.YtljlbkichcjlfaaGreatDoor.Mut
open Go.RowKit Go.Sort Go.Proofs.YtljlbkichcjlfaaGreatDoor.Ord
set_option linter.unusedSectionVars false
variable [Inhabited Lim]

def insG (m : Mu) : Bool → List Mu → List Mu
  | inn, [] => if inn then [] else [m]
  | inn, x :: t => (if !inn && decide (muC m x ≤ 0) then [m] else []) ++ ((if decide (muC m x = 0) then [] else [x]) ++ insG m (inn || (!inn && decide (muC m x ≤ 0))) t)
def insF (l : List Mu) (m : Mu) : List Mu := insG m false l
theorem insG_len (m : Mu) (l : List Mu) : ∀ inn, (insG m inn l).length ≤ l.length + 1 ∧ (inn = true → (insG m inn l).length ≤ l.length) := by
  induction l with
  | nil => intro inn; cases inn <;> simp [insG]
  | cons x t ih =>
    intro inn
    have h1 := ih true
    have h2 := ih false
    cases inn
    · cases hc : decide (muC m x ≤ 0)
      · refine ⟨?_, by simp⟩
        simp only [insG, hc, Bool.not_false, Bool.and_self, Bool.and_false, Bool.or_false, Bool.false_eq_true, if_false, List.nil_append, List.length_append, List.length_cons]
        split <;> simp <;> omega
      · refine ⟨?_, by simp⟩
        have h3 := h1.2 rfl
        simp only [insG, hc, Bool.not_false, Bool.and_self, Bool.or_true, if_true, List.length_append, List.length_cons, List.length_nil]
        split <;> simp <;> omega
    · have h3 := h1.2 rfl
      simp only [insG, Bool.not_true, Bool.false_and, Bool.or_false, Bool.false_eq_true, if_false, List.nil_append, List.length_append, List.length_cons]
      refine ⟨?_, fun _ => ?_⟩ <;> split <;> simp <;> omega
theorem insF_len (l : List Mu) (m : Mu) : (insF l m).length ≤ l.length + 1 := (insG_len m l false).1
/-- A rising row with one more is a rising row, of the same and that one. -/
theorem insG_true (m : Mu) : ∀ l : List Mu, (∀ x ∈ l, muC m x < 0) → insG m true l = l
  | [], _ => rfl
  | x :: t, h => by
    have h0 := h x (by simp)
    have hz : ¬ muC m x = 0 := by omega
    simp only [insG, Bool.not_true, Bool.false_and, Bool.or_false, Bool.false_eq_true, if_false, List.nil_append]
    rw [insG_true m t (fun y hy => h y (List.mem_cons_of_mem _ hy)), decide_eq_false hz]
    rfl
theorem insF_rises {l : List Mu} (m : Mu) (h : Rises muC l) : Rises muC (insF l m) ∧ ∀ x, x ∈ insF l m ↔ x ∈ l ∨ x = m := by
  unfold insF
  induction l with
  | nil => exact ⟨List.pairwise_singleton _ _, fun x => by simp [insG]⟩
  | cons y t ih =>
    obtain ⟨hy, ht⟩ := List.pairwise_cons.1 h
    obtain ⟨i1, i2⟩ := ih ht
    rcases muO.total m y with hlt | rfl | hgt
    · have e : insG m false (y :: t) = m :: y :: t := by
        have hz : ¬ muC m y = 0 := by omega
        have hl : muC m y ≤ 0 := by omega
        simp only [insG, Bool.not_false, Bool.true_and, Bool.false_or, decide_eq_true hl, decide_eq_false hz, if_true, Bool.false_eq_true, if_false]
        rw [insG_true m t (fun x hx => muO.trans _ _ _ hlt (hy x hx))]
        rfl
      rw [e]
      refine ⟨List.pairwise_cons.2 ⟨fun x hx => ?_, h⟩, fun x => by simp only [List.mem_cons]; constructor <;> (rintro (h | h | h) <;> simp_all)⟩
      rcases List.mem_cons.1 hx with rfl | hx
      · exact hlt
      · exact muO.trans _ _ _ hlt (hy x hx)
    · have e : insG m false (m :: t) = m :: t := by
        have hz : muC m m = 0 := muO.self m
        simp only [insG, Bool.not_false, Bool.true_and, Bool.false_or, hz, Int.le_refl, decide_true, if_true, List.nil_append]
        rw [insG_true m t hy]
        rfl
      rw [e]
      exact ⟨h, fun x => by simp only [List.mem_cons]; constructor <;> (rintro (h | h) <;> simp_all)⟩
    · have e : insG m false (y :: t) = y :: insG m false t := by
        have hs := muO.swap y m
        have hl : ¬ muC m y ≤ 0 := by omega
        have hz : ¬ muC m y = 0 := by omega
        simp only [insG, Bool.not_false, Bool.true_and, Bool.false_or, decide_eq_false hl, decide_eq_false hz, Bool.false_eq_true, if_false, List.nil_append]
        rfl
      rw [e]
      refine ⟨List.pairwise_cons.2 ⟨fun x hx => ?_, i1⟩, fun x => ?_⟩
      · rcases (i2 x).1 hx with hx | rfl
        · exact hy x hx
        · exact hgt
      · rw [List.mem_cons, List.mem_cons, i2, or_assoc]
theorem insF_have {l : List Mu} (m : Mu) (h : Rises muC l) (hm : m ∈ l) : insF l m = l :=
  Rises.unique muO (insF_rises m h).1 h fun x => ((insF_rises m h).2 x).trans ⟨fun hx => hx.elim id fun e => e ▸ hm, Or.inl⟩

def insRo (x : Ro) : Bool → List Ro → List Ro
  | inn, [] => if inn then [] else [x]
  | inn, y :: t => (if !inn && decide (muC x.1 y.1 ≤ 0) then [x] else []) ++ ((if decide (muC x.1 y.1 = 0) then [] else [y]) ++ insRo x (inn || (!inn && decide (muC x.1 y.1 ≤ 0))) t)
theorem insRo_map (x : Ro) (R : List Ro) : ∀ inn, (insRo x inn R).map (·.1) = insG x.1 inn (R.map (·.1)) := by
  induction R with
  | nil => intro inn; cases inn <;> rfl
  | cons y t ih =>
    intro inn
    simp only [insRo, insG, List.map_append, List.map_cons, ih]
    congr 1
    · split <;> rfl
    · congr 1
      split <;> rfl
theorem insRo_mem (x : Ro) (R : List Ro) : ∀ inn, ∀ y ∈ insRo x inn R, y ∈ R ∨ y = x := by
  induction R with
  | nil => intro inn y hy; cases inn <;> simp [insRo] at hy; exact Or.inr hy
  | cons z t ih =>
    intro inn y hy
    simp only [insRo, List.mem_append] at hy
    rcases hy with hy | hy | hy
    · split at hy <;> simp at hy; exact Or.inr hy
    · split at hy <;> simp at hy; exact Or.inl (by simp [hy])
    · rcases ih _ y hy with h | h
      · exact Or.inl (List.mem_cons_of_mem _ h)
      · exact Or.inr h
theorem insRo_cons (x y : Ro) (inn : Bool) (t : List Ro) (c : Int) (hc : c = muC x.1 y.1) : insRo x inn (y :: t) = (if !inn && decide (c ≤ 0) then [x] else []) ++ ((if decide (c = 0) then [] else [y]) ++ insRo x (inn || (!inn && decide (c ≤ 0))) t) := by
  subst hc; rfl
theorem one_row {w : World} {x : Ro} {t : TypeId} (h : Over w x) : MRow (w.alloc (.cells ⟨enM x⟩ t)) (.slice (some ⟨w.heap.size, 0, none⟩) 1 1) [x] := by
  refine ⟨⟨_, 1, rfl, by simp, by decide, Or.inr ⟨_, _, rfl, by simp, fun i y hi j hj => ?_⟩⟩, fun y hy => ?_⟩
  · rw [cells_at (heap_alloc_new w _), Nat.zero_add]
    have := flatMap_get enM_len [x] i y hi j hj
    simpa using this
  · rw [List.mem_singleton.1 hy]
    exact h.below ((Below.refl _ _).alloc (Nat.le_refl _) _)
/-- A row of mutations comes back, in memory that the call has made. -/
def RowP (w : World) (L : List Ro) (e : Ending) (w' : World) : Prop := ∃ v, e = .returned v ∧ MRow w' v L ∧ RowKit.Below w.heap.size w w'

end Go.Proofs.YtljlbkichcjlfaaGreatDoor.Mut
