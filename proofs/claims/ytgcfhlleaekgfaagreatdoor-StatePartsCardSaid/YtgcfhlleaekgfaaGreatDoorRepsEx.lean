/- Of any mutations there is what is left (layer 8), in plain Lean; so the reference's content is the program's. -/
import Derived.Test.YtgcfhlleaekgfaaGreatDoorConStore
namespace Go.Proofs.YtgcfhlleaekgfaaGreatDoor.Mut
open Go.Proofs.YtgcfhlleaekgfaaGreatDoor.Ord

theorem parts_ex {d : Mu → Mu → Int} (c : Mu → Int) : ∀ (l : List Mu), Rises d l → (∀ x y, d x y < 0 → 0 ≤ c x → 0 ≤ c y) → ∃ i, Parts c l i
  | [], _, _ => ⟨0, Nat.le_refl _, fun k x _ h => by simp at h, fun k x _ h => by simp at h⟩
  | y :: l, hr, hm => by
    unfold Rises at hr
    obtain ⟨h1, h2⟩ := List.pairwise_cons.1 hr
    by_cases hy : c y < 0
    · obtain ⟨i, p1, p2, p3⟩ := parts_ex (d := d) c l h2 hm
      refine ⟨i + 1, by simp; omega, fun k x hk hx => ?_, fun k x hk hx => ?_⟩
      · cases k with
        | zero => obtain rfl : y = x := by simpa using hx
                  exact hy
        | succ k => exact p2 k x (by omega) (by simpa using hx)
      · cases k with
        | zero => omega
        | succ k => exact p3 k x (by omega) (by simpa using hx)
    · refine ⟨0, Nat.zero_le _, fun k x hk _ => by omega, fun k x _ hx => ?_⟩
      cases k with
      | zero => obtain rfl : y = x := by simpa using hx
                omega
      | succ k =>
        have hx' : l[k]? = some x := by simpa using hx
        exact hm y x (h1 x (List.mem_of_getElem? hx')) (by omega)
theorem sort_ex (l : List Mu) : ∃ k : List Mu, k.Perm l ∧ k.Pairwise fun a b => muC a b ≤ 0 := by
  refine ⟨l.mergeSort (fun a b => decide (muC a b ≤ 0)), List.mergeSort_perm _ _, ?_⟩
  refine (List.pairwise_mergeSort (le := fun a b => decide (muC a b ≤ 0)) ?_ ?_ l).imp fun h => of_decide_eq_true h
  · intro a b c h1 h2
    exact decide_eq_true (muO.le_le (of_decide_eq_true h1) (of_decide_eq_true h2))
  · intro a b
    have := muO.swap a b
    by_cases h : muC a b ≤ 0
    · simp [h]
    · have : muC b a ≤ 0 := by omega
      simp [this]
theorem Reps.one_more {S : Mu → Prop} {c : Con} {n : Nat} {m : Mu} (h : Reps S c) (hO : Okc c n) (hm : rightF m = true) : ∃ c', Reps (fun x => S x ∨ x = m) c' ∧ Okc c' (n + 1) := by
  have hf := fit_of hm
  by_cases hs : m.table = 2
  · obtain ⟨i, hp⟩ := parts_ex (d := sibC) (fun x => sibC x m) c.sibs h.rs (fun x y h1 h2 => by have := sib_up m x y h1 h2; omega)
    cases hat : isAt (fun x => sibC x m) c.sibs i with
    | true => exact ⟨c, h.sib_keep hf hs hat, hO.more (by omega)⟩
    | false => exact ⟨_, h.sib_put hf hs hp hat, hO.sibs hm (fun x hx => mem_take_drop.1 hx) (len_put _ _ _)⟩
  · by_cases hk : m.kind = 3
    · cases hany : c.wipes.any (fun x => withinB x m) with
      | true => exact ⟨c, h.wipe_keep hf ⟨hs, hk⟩ hany, hO.more (by omega)⟩
      | false =>
        obtain ⟨l, hp, hl⟩ := sort_ex (c.wipes.filter (fun x => !withinB m x) ++ [m])
        refine ⟨_, h.wipe_put hf ⟨hs, hk⟩ (fun x hx => by
          cases e : withinB x m with
          | false => rfl
          | true => rw [List.any_eq_true.2 ⟨x, hx, e⟩] at hany; cases hany) hp hl, hO.of hm ?_ ?_⟩
        · intro x hx
          rcases Con.mem_all.1 hx with h1 | h1 | h1
          · exact Or.inl (Con.mem_all.2 (Or.inl (List.mem_filter.1 h1).1))
          · rcases List.mem_append.1 (hp.mem_iff.1 h1) with h2 | h2
            · exact Or.inl (Con.mem_all.2 (Or.inr (Or.inl (List.mem_filter.1 h2).1)))
            · exact Or.inr (List.mem_singleton.1 h2)
          · exact Or.inl (Con.mem_all.2 (Or.inr (Or.inr h1)))
        · have e1 := hp.length_eq
          have e2 := List.length_filter_le (fun x => !withinB m x) c.wipes
          have e3 := List.length_filter_le (fun x => !hitsB m x.key x.at_) c.cells
          rw [List.length_append, List.length_singleton] at e1
          unfold Con.all
          simp only [List.length_append]
          omega
    · have hc : isC m := ⟨hs, hk⟩
      by_cases hh : ∃ w ∈ c.wipes, hits w m.key m.at_
      · obtain ⟨w, hw, hh⟩ := hh
        exact ⟨c, h.cell_hit hf hc hw hh, hO.more (by omega)⟩
      · have hh' : ∀ w ∈ c.wipes, ¬ hits w m.key m.at_ := fun w hw e => hh ⟨w, hw, e⟩
        obtain ⟨i, hp⟩ := parts_ex (d := keyC) (fun x => cmpS x.key m.key) c.cells h.rc (fun x y h1 h2 => by have := key_up m x y h1 h2; omega)
        cases hat : isAt (fun x => cmpS x.key m.key) c.cells i with
        | false => exact ⟨_, h.cell_put hf hc hh' hp hat, hO.cells hm (fun x hx => mem_take_drop.1 hx) (len_put _ _ _)⟩
        | true =>
          obtain ⟨x, hx, e⟩ := isAt_some hat
          have e' := (Tot.str.zero _ _).1 e
          by_cases hl : muC x m < 0
          · refine ⟨_, h.cell_set hf hc hh' hx e' hl, hO.cells hm (fun y hy => ?_) (by simp)⟩
            exact List.mem_or_eq_of_mem_set hy
          · exact ⟨c, h.cell_keep hf hc hh' hx e' hl, hO.more (by omega)⟩
theorem fits_nil (m : Mu) : ¬ Fits [] m := fun h => by cases h.1
/-- What is left of a row. -/
theorem reps_ex (l : List Mu) : ∃ c, Reps (Fits l) c ∧ Okc c l.length := by
  suffices h : ∀ r : List Mu, ∃ c, Reps (Fits r.reverse) c ∧ Okc c r.reverse.length by
    have := h l.reverse
    rwa [List.reverse_reverse] at this
  intro r
  induction r with
  | nil => exact ⟨⟨[], [], []⟩, Reps.none.same fun m => ⟨fun h => h.elim, fun h => (fits_nil m h).elim⟩, ⟨fun m hm => absurd hm (by simp [Con.all]), Nat.le_refl _⟩⟩
  | cons x r ih =>
    obtain ⟨c, h1, h2⟩ := ih
    rw [List.reverse_cons]
    have hlen : (r.reverse ++ [x]).length = r.reverse.length + 1 := by simp
    rw [hlen]
    cases hx : rightF x with
    | true =>
      obtain ⟨c', h3, h4⟩ := h1.one_more h2 hx
      refine ⟨c', h3.same fun y => ?_, h4⟩
      rw [fits_snoc]
      exact ⟨fun h => h.imp id fun e => ⟨e, hx⟩, fun h => h.imp id fun e => e.1⟩
    | false =>
      refine ⟨c, h1.same fun y => ?_, h2.more (by omega)⟩
      rw [fits_snoc]
      exact ⟨Or.inl, fun h => h.elim id fun e => by rw [hx] at e; exact absurd e.2 (by decide)⟩
end Go.Proofs.YtgcfhlleaekgfaaGreatDoor.Mut
