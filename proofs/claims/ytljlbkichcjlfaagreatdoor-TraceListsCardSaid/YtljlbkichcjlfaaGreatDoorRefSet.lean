/- The walks of cenotaphref08.set, within; cenotaphref07.Covers; cenotaphref08.Hit (layers 7, 8). -/
import Derived.Test.YtljlbkichcjlfaaGreatDoorRefIns
import Derived.Test.YtljlbkichcjlfaaGreatDoorRefMay
set_option linter.unusedSimpArgs false
set_option linter.unusedVariables false
namespace Go.Proofs.YtljlbkichcjlfaaGreatDoor.Mut
open Go.RowKit Go.Sort Go.Proofs.YtljlbkichcjlfaaGreatDoor.Ord
set_option linter.unusedSectionVars false
variable [Inhabited Lim]

def setStep (acc : List Ro) (x : Ro) : List Ro := if rightF x.1 then insRo x false acc else acc
def setRo (R : List Ro) : List Ro := R.foldl setStep []
theorem setRo_snoc (R : List Ro) (x : Ro) : setRo (R ++ [x]) = setStep (setRo R) x := by simp [setRo]
theorem setStep_mem (acc : List Ro) (x : Ro) : ∀ y ∈ setStep acc x, y ∈ acc ∨ y = x := by
  intro y hy
  unfold setStep at hy
  split at hy
  · exact insRo_mem _ _ _ y hy
  · exact Or.inl hy
theorem setRo_mem (R : List Ro) : ∀ y ∈ setRo R, y ∈ R := by
  have : ∀ (R : List Ro) (acc : List Ro), ∀ y ∈ R.foldl setStep acc, y ∈ acc ∨ y ∈ R := by
    intro R
    induction R with
    | nil => intro acc y hy; exact Or.inl hy
    | cons x R ih =>
      intro acc y hy
      rcases ih _ y hy with h | h
      · rcases setStep_mem acc x y h with h | rfl
        · exact Or.inl h
        · exact Or.inr (by simp)
      · exact Or.inr (List.mem_cons_of_mem _ h)
  intro y hy
  rcases this R [] y hy with h | h
  · cases h
  · exact h
theorem setRo_spec (R : List Ro) : Rises muC ((setRo R).map (·.1)) ∧ (∀ m, m ∈ (setRo R).map (·.1) ↔ Fits (R.map (·.1)) m) ∧ (setRo R).length ≤ R.length := by
  have : ∀ (R : List Ro) (acc : List Ro) (S : Mu → Prop), Rises muC (acc.map (·.1)) → (∀ m, m ∈ acc.map (·.1) ↔ S m) →
      Rises muC ((R.foldl setStep acc).map (·.1)) ∧ (∀ m, m ∈ (R.foldl setStep acc).map (·.1) ↔ S m ∨ Fits (R.map (·.1)) m) ∧ (R.foldl setStep acc).length ≤ acc.length + R.length := by
    intro R
    induction R with
    | nil => intro acc S h1 h2; exact ⟨h1, fun m => by rw [List.foldl_nil, h2]; unfold Fits; simp, by simp⟩
    | cons x R ih =>
      intro acc S h1 h2
      rw [List.foldl_cons]
      by_cases hr : rightF x.1 = true
      · have e : setStep acc x = insRo x false acc := by unfold setStep; rw [if_pos hr]
        have hm := insRo_map x acc false
        have hs := insF_rises x.1 h1
        obtain ⟨i1, i2, i3⟩ := ih (setStep acc x) (fun m => S m ∨ m = x.1) (by rw [e, hm]; exact hs.1) (fun m => by rw [e, hm]; exact (hs.2 m).trans (or_congr (h2 m) Iff.rfl))
        refine ⟨i1, fun m => (i2 m).trans ?_, ?_⟩
        · unfold Fits
          rw [List.map_cons, List.mem_cons]
          constructor
          · rintro ((h | rfl) | ⟨h, h3⟩)
            · exact Or.inl h
            · exact Or.inr ⟨Or.inl rfl, hr⟩
            · exact Or.inr ⟨Or.inr h, h3⟩
          · rintro (h | ⟨rfl | h, h3⟩)
            · exact Or.inl (Or.inl h)
            · exact Or.inl (Or.inr rfl)
            · exact Or.inr ⟨h, h3⟩
        · have h4 : (setStep acc x).length ≤ acc.length + 1 := by
            rw [e]
            have := insF_len (acc.map (·.1)) x.1
            unfold insF at this
            rw [← hm, List.length_map, List.length_map] at this
            exact this
          simp only [List.length_cons]; omega
      · have hrf : rightF x.1 = false := by simpa using hr
        have e : setStep acc x = acc := by unfold setStep; rw [hrf]; rfl
        rw [e]
        obtain ⟨i1, i2, i3⟩ := ih acc S h1 h2
        refine ⟨i1, fun m => (i2 m).trans (or_congr Iff.rfl ?_), by simp only [List.length_cons]; omega⟩
        unfold Fits
        rw [List.map_cons, List.mem_cons]
        constructor
        · rintro ⟨h, h3⟩; exact ⟨Or.inr h, h3⟩
        · rintro ⟨rfl | h, h3⟩
          · rw [hrf] at h3; cases h3
          · exact ⟨h, h3⟩
  obtain ⟨h1, h2, h3⟩ := this R [] (fun _ => False) List.Pairwise.nil (by simp)
  exact ⟨h1, fun m => (h2 m).trans (by simp), by rw [List.length_nil, Nat.zero_add] at h3; exact h3⟩

theorem ge_or (a b : ByteArray) : (Op.bytesLess b.toList a.toList || a.toList == b.toList) = !lessS a b := by
  rw [← le_or b a, BEq.comm (a := a.toList)]
theorem bool_ge (c : Int) : decide (c ≥ 0) = !decide (c < 0) := by
  by_cases h : c < 0
  · rw [decide_eq_true h, decide_eq_false (by omega)]; rfl
  · rw [decide_eq_false h, decide_eq_true (by omega)]; rfl
end Go.Proofs.YtljlbkichcjlfaaGreatDoor.Mut
