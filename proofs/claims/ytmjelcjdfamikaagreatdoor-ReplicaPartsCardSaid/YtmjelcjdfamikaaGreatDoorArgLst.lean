/- A slice as an argument, at elements of any kind: it reads as a list. -/
import Derived.Test.YtmjelcjdfamikaaGreatDoorKit
import Derived.Test.YtmjelcjdfamikaaGreatDoorLst
set_option linter.unusedSimpArgs false
set_option linter.unusedVariables false
namespace Go.Proofs.YtmjelcjdfamikaaGreatDoor
open Go.ChangeShapes Go.WideShapes Go.ChangeAt Go.RowKit Go.Deep Go.Proofs.YtmjelcjdfamikaaGreatDoor.Kit

theorem choose_lt' {α : Type} [Inhabited α] {n : Nat} {p : Nat → α → Prop} (h : ∀ i, i < n → ∃ x, p i x) : ∃ f : Nat → α, ∀ i, i < n → p i (f i) := by
  refine ⟨fun i => if hi : i < n then Classical.choose (h i hi) else default, fun i hi => ?_⟩
  simp only [hi, dif_pos]
  exact Classical.choose_spec (h i hi)

theorem arg_lst {H : Type} {enc : TypeId × Value → H} {P : Program} {W : World} {α : Type} [Inhabited α] {t e : TypeId} {sz : Nat} {en : α → List Value} {good : α → Prop} {v : Value} (ht : P.underlying t = some (.slice e)) (hC : P.cellsOf e = sz) (hsz : 0 < sz)
    (hrd : ∀ cs, Rd enc P W e cs → ∃ x, cs = en x ∧ good x) (h : Arg enc P W t v) : ∃ ao cap l, v = .slice ao (List.length l) cap ∧ Lst sz en W v l ∧ (ao = none → cap = 0) ∧ ∀ x ∈ l, good x := by
  rcases arg_slice ht h with rfl | ⟨a, len, cap, rfl, hl, hc, hel⟩
  · exact ⟨none, 0, [], rfl, Lst.nil _, fun _ => rfl, by simp⟩
  rcases cells_slice (by rw [hC]; omega) hl hc (Or.inr ⟨a, rfl, hel⟩) with h0 | ⟨b, off, F, h1, h2, h3, h4, h5, h6⟩
  · subst h0
    exact ⟨some a, cap, [], rfl, ⟨some a, cap, rfl, by simp, hc, Or.inl rfl⟩, (fun h => by cases h), by simp⟩
  · cases h1
    rw [hC] at h6
    obtain ⟨q, hq⟩ := choose_lt' (α := α) (n := len) (p := fun i x => F i = en x ∧ good x) (fun i hi => hrd _ (h6 i (by omega)).2.1)
    have hn : ((List.range len).map q).length = len := by simp
    refine ⟨_, cap, (List.range len).map q, by rw [hn], ⟨_, cap, by rw [hn], by rw [hn]; exact hl, hc, Or.inr ⟨b, off, rfl, h5, fun i x hi j hj => ?_⟩⟩, (fun h => by cases h), fun x hx => ?_⟩
    · have hlt : i < len := by have := (List.getElem?_eq_some_iff.1 hi).1; simpa using this
      have hx : q i = x := by simpa [hlt] using hi
      rw [(h6 i (by omega)).2.2 j hj, (hq i hlt).1, hx]
    · obtain ⟨i, hi, rfl⟩ := List.mem_map.1 hx
      exact (hq i (List.mem_range.1 hi)).2
end Go.Proofs.YtmjelcjdfamikaaGreatDoor
