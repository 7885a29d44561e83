/- diffs.Manifest (layer 36): the entries of a content, rising, each once. -/
import Derived.Test.YtmfhmcegmeinnaaGreatDoorEntCompact
import Derived.Test.YtmfhmcegmeinnaaGreatDoorConKnown
set_option linter.unusedSimpArgs false
set_option linter.unusedVariables false
namespace Go.Proofs.YtmfhmcegmeinnaaGreatDoor.Diffs
open Go.RowKit Go.Sort
set_option linter.unusedSectionVars false

theorem entT : Ord.Tot entC := by
  have h := (Ord.Tot.str.lexed Mut.stO).pull (fun e : Ent => (e.k, (⟨e.p, e.l, e.h⟩ : Mut.Stp))) (fun a b e => by
    cases a; cases b; simp at e; obtain ⟨rfl, rfl, rfl, rfl⟩ := e; rfl)
  have e : (fun a b : Ent => Ord.Tot.lex Ord.cmpS Mut.stC (a.k, (⟨a.p, a.l, a.h⟩ : Mut.Stp)) (b.k, (⟨b.p, b.l, b.h⟩ : Mut.Stp))) = entC := by
    funext a b
    rw [entC_ord]
    unfold Ord.Tot.lex Ord.orL Ord.orL Ord.orL
    simp only []
    repeat' split
    all_goals first | rfl | omega
  rw [e] at h
  exact h
theorem comp_mem : ∀ (l : List Ent) (p : Option Ent) (x : Ent), (x ∈ compG p l → x ∈ l) ∧ (x ∈ l → x ∈ compG p l ∨ p = some x)
  | [], p, x => by simp [compG]
  | y :: t, p, x => by
    have ih := comp_mem t (some y) x
    unfold compG
    split
    · rename_i hp
      refine ⟨fun h => List.mem_cons_of_mem _ (ih.1 h), fun h => ?_⟩
      rcases List.mem_cons.1 h with rfl | h
      · exact Or.inr hp
      · rcases ih.2 h with g | g
        · exact Or.inl g
        · exact Or.inr (hp.trans g)
    · refine ⟨fun h => ?_, fun h => ?_⟩
      · rcases List.mem_cons.1 h with rfl | h
        · exact List.mem_cons_self ..
        · exact List.mem_cons_of_mem _ (ih.1 h)
      · rcases List.mem_cons.1 h with rfl | h
        · exact Or.inl (List.mem_cons_self ..)
        · rcases ih.2 h with g | g
          · exact Or.inl (List.mem_cons_of_mem _ g)
          · rw [Option.some.inj g]; exact Or.inl (List.mem_cons_self ..)
theorem comp_srt : ∀ (l : List Ent) (p : Option Ent), l.Pairwise (fun a b => entC a b ≤ 0) → (∀ y, p = some y → ∀ z ∈ l, entC y z ≤ 0) → Srt (compG p l) ∧ ∀ y, p = some y → ∀ z ∈ compG p l, entC y z < 0
  | [], p, _, _ => ⟨List.Pairwise.nil, fun y _ z h => by simp [compG] at h⟩
  | x :: t, p, hl, hp => by
    obtain ⟨h1, h2⟩ := List.pairwise_cons.1 hl
    obtain ⟨q1, q2⟩ := comp_srt t (some x) h2 (fun y hy z hz => by rw [← Option.some.inj hy]; exact h1 z hz)
    unfold compG
    split
    · rename_i hpx
      refine ⟨q1, fun y hy z hz => ?_⟩
      rw [hpx] at hy
      exact q2 y hy z hz
    · rename_i hpx
      refine ⟨List.pairwise_cons.2 ⟨fun z hz => q2 x rfl z hz, q1⟩, fun y hy z hz => ?_⟩
      have hyx : entC y x < 0 := by
        have g := hp y hy x (List.mem_cons_self ..)
        have hne : entC y x ≠ 0 := fun e => hpx (by rw [hy, (entC_zero y x).1 e])
        omega
      rcases List.mem_cons.1 hz with rfl | hz
      · exact hyx
      · exact entC_trans hyx (q2 x rfl z hz)
theorem putG_has (e : Ent) : ∀ (l : List Ent) (inn : Bool), (inn = false → e ∈ putG e inn l) ∧ ∀ z ∈ l, z ≠ e → z ∈ putG e inn l
  | [], inn => ⟨fun h => by subst h; simp [putG], fun z hz => by simp at hz⟩
  | y :: t, inn => by
    have ih := putG_has e t (inn || (!inn && decide (entC e y ≤ 0)))
    refine ⟨fun h => ?_, fun z hz hne => ?_⟩
    · subst h
      unfold putG
      simp only [Bool.not_false, Bool.true_and, Bool.false_or] at ih ⊢
      cases hd : decide (entC e y ≤ 0)
      · rw [hd] at ih
        exact List.mem_append.2 (Or.inr (List.mem_append.2 (Or.inr (ih.1 rfl))))
      · simp
    · unfold putG
      rcases List.mem_cons.1 hz with rfl | hz
      · have h0 : eqE z e = false := eqE_false hne
        simp [h0]
      · exact List.mem_append.2 (Or.inr (List.mem_append.2 (Or.inr (ih.2 z hz hne))))
theorem putF_mem (l : List Ent) (e x : Ent) : x ∈ putF l e ↔ x ∈ l ∨ x = e := by
  refine ⟨fun h => (putG_mem e l x h).elim Or.inr Or.inl, fun h => ?_⟩
  by_cases hx : x = e
  · rw [hx]; exact (putG_has e l false).1 rfl
  · exact (putG_has e l false).2 x (h.resolve_right hx) hx
theorem fold_mem : ∀ (l acc : List Ent) (x : Ent), x ∈ l.foldl putF acc ↔ x ∈ acc ∨ x ∈ l
  | [], acc, x => by simp
  | y :: t, acc, x => by
    rw [List.foldl_cons, fold_mem t, putF_mem, List.mem_cons, or_assoc]
theorem rowF_mem (l : List Ent) (x : Ent) : x ∈ rowF l ↔ x ∈ l := by
  unfold rowF
  rw [fold_mem]
  simp
/-- A row that rises is what its members are. -/
theorem srt_ext {a b : List Ent} (ha : Srt a) (hb : Srt b) (h : ∀ x, x ∈ a ↔ x ∈ b) : a = b := Ord.Rises.unique entT ha hb h
theorem comp_row {R l : List Ent} (hp : R.Perm l) (hs : R.Pairwise fun a b => entC a b ≤ 0) : compG none R = rowF l :=
  srt_ext (comp_srt R none hs (fun y h => by cases h)).1 (rowF_srt l) fun x => by
    rw [rowF_mem, ← hp.mem_iff]
    exact ⟨(comp_mem R none x).1, fun h => ((comp_mem R none x).2 h).elim id (fun e => by cases e)⟩
end Go.Proofs.YtmfhmcegmeinnaaGreatDoor.Diffs
