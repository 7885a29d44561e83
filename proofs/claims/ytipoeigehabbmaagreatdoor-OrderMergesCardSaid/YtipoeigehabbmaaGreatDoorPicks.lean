/- A region that draws its order, pick by pick (for a few operations): what may come up now, and each of these as a list of one operation, what follows behind a letter. -/
import Derived.StillTail
set_option linter.unusedSimpArgs false
set_option linter.unusedVariables false
namespace Go.Proofs.YtipoeigehabbmaaGreatDoor.Picks
open Go

section
variable {P : Program} {ops : Array Oper} {Q : Exit → Act → World → Prop} {md : Region.Mode}
theorem wpAny_go {fuel : Nat} {listed : Array Bool} {a : Act} {w : World} (rs : List Nat) (hr : Region.ready md ops listed = rs) (hne : rs ≠ []) (h : ∀ i ∈ rs, wpOp P ops Q i (wpAny P md ops Q fuel (listed.setIfInBounds i true)) a w) :
    wpAny P md ops Q (fuel + 1) listed a w := ⟨fun h0 => absurd (hr.symm.trans h0) hne, fun i hi => h i (hr ▸ hi)⟩
theorem wpAny_end {listed : Array Bool} {a : Act} {w : World} (hr : Region.ready md ops listed = []) (h : Q .normal a w) : wpAny P md ops Q 0 listed a w := ⟨hr, h⟩
def kPost (Q : Exit → Act → World → Prop) (K : Act → World → Prop) : Exit → Act → World → Prop
  | .normal, a, w => K a w
  | e, a, w => Q e a w
theorem upon_k {o : Oper} {a : Act} {K : Act → World → Prop} (r : Result Next) (h : o.upon P a (wpList P ops (kPost Q K) []) (kPost Q K) r) : o.upon P a K Q r := by
  have out : LetsOut (kPost Q K) → LetsOut Q := fun ⟨a', w', hh⟩ => ⟨a', w', hh⟩
  cases r with
  | ok n w' =>
    cases n with
    | value v => exact h
    | skip => exact h
    | defer d => exact h
    | enter f args =>
      refine Calls.mono (show Calls P f args w' _ from h) ?_
      intro e w'' he
      cases e with
      | returned v => exact he
      | panicked c => exact he
      | outgrown => exact out he
    | row row args => exact Rows.mono (show Rows P row args w' _ from h) (fun v w'' he => he)
    | _ => exact h
  | halt x w' => cases x <;> exact h
/-- Operation i: what follows it stands behind a letter. -/
theorem wpOp_of_list {i : Nat} {o : Oper} {a : Act} {w : World} {K : Act → World → Prop} (ho : ops[i]? = some o)
    (h : ∀ K' : Exit → Act → World → Prop, (∀ a' w', K a' w' → K' .normal a' w') → (∀ e a w, e ≠ .normal → Q e a w → K' e a w) → wpList P ops K' [o] a w) : wpOp P ops Q i K a w := by
  have h1 := h (kPost Q K) (fun _ _ hk => hk) (fun e a w hne hq => by cases e <;> first | exact absurd rfl hne | exact hq)
  unfold wpOp
  simp only [ho]
  unfold wpList at h1
  split
  · rename_i hw
    rw [if_pos hw] at h1
    rcases h1 with h1 | ⟨h2, a', w', h3⟩
    · exact Or.inl (upon_k _ h1)
    · exact Or.inr ⟨h2, a', w', h3⟩
  · rename_i hw
    rw [if_neg hw] at h1
    exact h1
end
end Go.Proofs.YtipoeigehabbmaaGreatDoor.Picks
