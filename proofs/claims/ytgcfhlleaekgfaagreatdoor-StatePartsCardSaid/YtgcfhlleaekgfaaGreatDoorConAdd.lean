/- A content with a mutation more (layer 8), in plain Lean: what the places of a search, a wipe, a look at the wipes tell. -/
import Derived.Test.YtgcfhlleaekgfaaGreatDoorConPlain
import Derived.Test.YtgcfhlleaekgfaaGreatDoorMutBs
import Derived.Test.YtgcfhlleaekgfaaGreatDoorMutAsk
namespace Go.Proofs.YtgcfhlleaekgfaaGreatDoor.Mut
open Go.Proofs.YtgcfhlleaekgfaaGreatDoor.Ord

theorem Parts.take {c : Mu → Int} {l : List Mu} {i : Nat} (h : Parts c l i) {x : Mu} (hx : x ∈ l.take i) : c x < 0 := by
  obtain ⟨k, hk, e⟩ := List.mem_iff_getElem.1 hx
  have hk' : k < i := by rw [List.length_take] at hk; omega
  rw [List.getElem_take] at e
  exact h.2.1 k x hk' (by rw [List.getElem?_eq_getElem (by rw [List.length_take] at hk; omega), e])
theorem Parts.drop {c : Mu → Int} {l : List Mu} {i : Nat} (h : Parts c l i) {x : Mu} (hx : x ∈ l.drop i) : 0 ≤ c x := by
  obtain ⟨k, hk, e⟩ := List.mem_iff_getElem.1 hx
  rw [List.getElem_drop] at e
  exact h.2.2 (i + k) x (by omega) (by rw [List.getElem?_eq_getElem (by rw [List.length_drop] at hk; omega), e])

theorem isAt_some {c : Mu → Int} {l : List Mu} {i : Nat} (h : isAt c l i = true) : ∃ x, l[i]? = some x ∧ c x = 0 := by
  unfold isAt at h
  cases e : l[i]? with
  | none => rw [e] at h; simp at h
  | some x => rw [e] at h; exact ⟨x, rfl, by simpa using h⟩
theorem isAt_none {c : Mu → Int} {l : List Mu} {i : Nat} (h : isAt c l i = false) : ∀ x, l[i]? = some x → ¬ c x = 0 := by
  intro x e h0
  unfold isAt at h
  rw [e] at h
  simp [h0] at h
theorem get_mem {α : Type} {l : List α} {i : Nat} {x : α} (h : l[i]? = some x) : x ∈ l := by
  obtain ⟨h1, h2⟩ := List.getElem?_eq_some_iff.1 h
  exact h2 ▸ List.getElem_mem h1
/-- Behind a place that isn't the element's own all are above. -/
theorem Parts.above {c : Mu → Int} {d : Mu → Mu → Int} {l : List Mu} {i : Nat} (h : Parts c l i) (hno : isAt c l i = false) (hr : Rises d l) (hd : ∀ x y, d x y < 0 → 0 ≤ c x → 0 < c y) {x : Mu} (hx : x ∈ l.drop i) : 0 < c x := by
  obtain ⟨k, hk, e⟩ := List.mem_iff_getElem.1 hx
  rw [List.getElem_drop] at e
  have hk' : i + k < l.length := by rw [List.length_drop] at hk; omega
  have e' : l[i + k]? = some x := by rw [List.getElem?_eq_getElem hk', e]
  have h0 := h.2.2 (i + k) x (by omega) e'
  by_cases hz : k = 0
  · subst hz
    have := isAt_none hno x e'
    omega
  · have hi : i < l.length := by omega
    have hp := (List.pairwise_iff_getElem.1 hr) i (i + k) hi hk' (by omega)
    rw [e] at hp
    exact hd _ _ hp (h.2.2 i _ (Nat.le_refl _) (List.getElem?_eq_getElem hi))

section
variable {S : Mu → Prop} {c : Con} {m : Mu} {i : Nat}
theorem key_up (m x y : Mu) (h1 : keyC x y < 0) (h2 : 0 ≤ cmpS x.key m.key) : 0 < cmpS y.key m.key := by
  unfold keyC at h1
  have a := Tot.str.swap m.key x.key
  have b := Tot.str.swap m.key y.key
  have h3 : cmpS m.key x.key ≤ 0 := by
    have := Tot.str.swap x.key m.key
    omega
  exact b.1 (Tot.str.le_lt h3 h1)
theorem sib_up (m x y : Mu) (h1 : sibC x y < 0) (h2 : 0 ≤ sibC x m) : 0 < sibC y m := by
  have b := sibO.swap m y
  have h3 : sibC m x ≤ 0 := by
    have := sibO.swap x m
    omega
  exact b.1 (sibO.le_lt h3 h1)
theorem Reps.cell_put (h : Reps S c) (hf : Fit m) (hm : isC m) (hh : ∀ w ∈ c.wipes, ¬ hits w m.key m.at_) (hp : Parts (fun x => cmpS x.key m.key) c.cells i) (hno : isAt (fun x => cmpS x.key m.key) c.cells i = false) :
    Reps (fun x => S x ∨ x = m) ⟨c.cells.take i ++ m :: c.cells.drop i, c.wipes, c.sibs⟩ := by
  have ab : ∀ x ∈ c.cells.drop i, 0 < cmpS x.key m.key := fun x hx => hp.above hno h.rc (key_up m) hx
  have be : ∀ x ∈ c.cells.take i, cmpS x.key m.key < 0 := fun x hx => hp.take hx
  refine h.cell_new hf hm hh (rises_take_drop h.rc i m be fun x hx => (Tot.str.swap m.key x.key).2 (ab x hx)) ?_ ?_ ⟨m, mem_take_drop.2 (Or.inr rfl), rfl, by rw [muO.self]; omega, ?_⟩
  · intro x hx; exact (mem_take_drop.1 hx).symm
  · intro x hx _; exact mem_take_drop.2 (Or.inl hx)
  · intro x hx e
    exfalso
    rw [← List.take_append_drop i c.cells, List.mem_append] at hx
    rcases hx with hx | hx
    · have := be x hx; rw [e, Tot.str.self] at this; omega
    · have := ab x hx; rw [e, Tot.str.self] at this; omega
theorem set_rises (h : Rises keyC c.cells) {x : Mu} (hx : c.cells[i]? = some x) (hk : x.key = m.key) : Rises keyC (c.cells.set i m) := by
  unfold Rises at *
  have : (c.cells.map (·.key)).Pairwise (fun a b => cmpS a b < 0) := List.pairwise_map.2 h
  have e : (c.cells.set i m).map (·.key) = c.cells.map (·.key) := by
    rw [List.map_set, ← hk]
    apply List.ext_getElem?
    intro j
    rw [List.getElem?_set]
    split
    · rename_i hij
      subst hij
      have hi := (List.getElem?_eq_some_iff.1 hx).1
      rw [if_pos (by simpa using hi), List.getElem?_map, hx]; rfl
    · rfl
  rw [← e] at this
  exact List.pairwise_map.1 this
theorem Reps.cell_set (h : Reps S c) (hf : Fit m) (hm : isC m) (hh : ∀ w ∈ c.wipes, ¬ hits w m.key m.at_) {x : Mu} (hx : c.cells[i]? = some x) (hk : x.key = m.key) (hl : muC x m < 0) :
    Reps (fun x => S x ∨ x = m) ⟨c.cells.set i m, c.wipes, c.sibs⟩ := by
  have hi := (List.getElem?_eq_some_iff.1 hx).1
  refine h.cell_new hf hm hh (set_rises h.rc hx hk) ?_ ?_ ⟨m, List.mem_iff_getElem.2 ⟨i, by simpa using hi, by simp⟩, rfl, by rw [muO.self]; omega, ?_⟩
  · intro y hy
    rcases List.mem_or_eq_of_mem_set hy with h1 | h1
    · exact Or.inr h1
    · exact Or.inl h1
  · intro y hy hne
    obtain ⟨j, hj, e⟩ := List.mem_iff_getElem.1 hy
    refine List.mem_iff_getElem.2 ⟨j, by simpa using hj, ?_⟩
    rw [List.getElem_set]
    split
    · rename_i hij
      subst hij
      rw [List.getElem?_eq_getElem hj, e] at hx
      injection hx with hx
      subst hx
      exact absurd hk hne
    · exact e
  · intro y hy e
    rw [keys_one h.rc hy (get_mem hx) (e.trans hk.symm)]
    omega
theorem Reps.cell_keep (h : Reps S c) (hf : Fit m) (hm : isC m) (hh : ∀ w ∈ c.wipes, ¬ hits w m.key m.at_) {x : Mu} (hx : c.cells[i]? = some x) (hk : x.key = m.key) (hl : ¬ muC x m < 0) :
    Reps (fun x => S x ∨ x = m) c := by
  have := h.cell_new hf hm hh (l := c.cells) h.rc (fun y hy => Or.inr hy) (fun y hy _ => hy) ⟨x, get_mem hx, hk, muO.le_of.1 hl, fun y hy e => by
    rw [keys_one h.rc hy (get_mem hx) (e.trans hk.symm), muO.self]; omega⟩
  exact this
theorem Reps.sib_put (h : Reps S c) (hf : Fit m) (hm : isS m) (hp : Parts (fun x => sibC x m) c.sibs i) (hno : isAt (fun x => sibC x m) c.sibs i = false) :
    Reps (fun x => S x ∨ x = m) ⟨c.cells, c.wipes, c.sibs.take i ++ m :: c.sibs.drop i⟩ := by
  refine h.sib hf hm (rises_take_drop h.rs i m (fun x hx => hp.take hx) fun x hx => (sibO.swap m x).2 (hp.above hno h.rs (sib_up m) hx)) ?_
  intro x; exact mem_take_drop
theorem Reps.sib_keep (h : Reps S c) (hf : Fit m) (hm : isS m) (hat : isAt (fun x => sibC x m) c.sibs i = true) : Reps (fun x => S x ∨ x = m) c := by
  obtain ⟨x, hx, e⟩ := isAt_some hat
  obtain rfl := (sibO.zero _ _).1 e
  have := h.sib hf hm (l := c.sibs) h.rs (fun y => ⟨Or.inl, fun h1 => h1.elim id fun e => e ▸ get_mem hx⟩)
  exact this
theorem Reps.wipe_put (h : Reps S c) (hf : Fit m) (hm : isW m) (hno : ∀ x ∈ c.wipes, withinB x m = false) {l : List Mu} (hp : l.Perm (c.wipes.filter (fun x => !withinB m x) ++ [m])) (hs : l.Pairwise fun a b => muC a b ≤ 0) :
    Reps (fun x => S x ∨ x = m) ⟨c.cells.filter fun x => !hitsB m x.key x.at_, l, c.sibs⟩ := by
  have hno' : ∀ x ∈ c.wipes, ¬ within x m := fun x hx e => by rw [within_iff] at e; rw [hno x hx] at e; cases e
  have hnd : l.Nodup := by
    refine hp.nodup_iff.2 (List.nodup_append.2 ⟨(rises_nodup muO h.rw_).filter _, by simp, ?_⟩)
    rintro a ha b hb rfl
    obtain rfl := List.mem_singleton.1 hb
    exact hno' _ (List.mem_filter.1 ha).1 (within_self _)
  refine h.wipe_new hf hm hno' (rises_of_sorted muO hnd hs) (List.Pairwise.filter _ h.rc) ?_ ?_
  · intro x
    rw [hp.mem_iff, List.mem_append, List.mem_filter, List.mem_singleton, within_iff, or_comm]
    simp
  · intro x
    rw [List.mem_filter, hits_iff]
    simp
theorem Reps.wipe_keep (h : Reps S c) (hf : Fit m) (hm : isW m) (hany : c.wipes.any (fun x => withinB x m) = true) : Reps (fun x => S x ∨ x = m) c := by
  obtain ⟨x, hx, e⟩ := List.any_eq_true.1 hany
  exact h.wipe_in hf hm hx ((within_iff _ _).2 e)
end
end Go.Proofs.YtgcfhlleaekgfaaGreatDoor.Mut
