/- ConPlain, ConAdd, MutIns, ConMem: in one text. -/
import Derived.Test.YtmjelcjdfamikaaGreatDoorMuts
import Derived.Test.YtmjelcjdfamikaaGreatDoorMutBs
import Derived.Test.YtmjelcjdfamikaaGreatDoorMutRights
import Derived.Test.YtmjelcjdfamikaaGreatDoorSlRow
set_option linter.unusedSimpArgs false
set_option linter.unusedVariables false
/- Contents in plain Lean (layer 8): parts of a content are what is left of themselves; all of a content, rising, tells it. -/
namespace Go.Proofs.YtmjelcjdfamikaaGreatDoor.Mut
open Go.Proofs.YtmjelcjdfamikaaGreatDoor.Ord
set_option linter.unusedSectionVars false
variable [Inhabited Lim]

theorem Con.mem_all {c : Con} {m : Mu} : m ∈ c.all ↔ m ∈ c.cells ∨ m ∈ c.wipes ∨ m ∈ c.sibs := by
  unfold Con.all
  simp
theorem within_self (m : Mu) : within m m := by unfold within; rw [Tot.str.self, Tot.str.self, stO.self]; omega
theorem Reps.in_all {S : Mu → Prop} {c : Con} (h : Reps S c) {m : Mu} (hm : m ∈ c.all) : S m := by
  rcases Con.mem_all.1 hm with h1 | h1 | h1
  · exact (h.cells m h1).1
  · exact (h.wipes m h1).1
  · exact ((h.sibs m).1 h1).1
theorem Reps.all_c {S : Mu → Prop} {c : Con} (h : Reps S c) {m : Mu} (hm : m ∈ c.all) (k : isC m) : m ∈ c.cells := by
  rcases Con.mem_all.1 hm with h1 | h1 | h1
  · exact h1
  · exact absurd (h.wipes m h1).2.2 k.2
  · exact absurd ((h.sibs m).1 h1).2 k.1
theorem Reps.all_w {S : Mu → Prop} {c : Con} (h : Reps S c) {m : Mu} (hm : m ∈ c.all) (k : isW m) : m ∈ c.wipes := by
  rcases Con.mem_all.1 hm with h1 | h1 | h1
  · exact absurd k.2 (h.cells m h1).2.2
  · exact h1
  · exact absurd ((h.sibs m).1 h1).2 k.1
theorem Reps.all_s {S : Mu → Prop} {c : Con} (h : Reps S c) {m : Mu} (hm : m ∈ c.all) (k : isS m) : m ∈ c.sibs := by
  rcases Con.mem_all.1 hm with h1 | h1 | h1
  · exact absurd k (h.cells m h1).2.1
  · exact absurd k (h.wipes m h1).2.1
  · exact h1

def Con.filter (c : Con) (p : Mu → Bool) : Con := ⟨c.cells.filter p, c.wipes.filter p, c.sibs.filter p⟩
theorem Con.mem_filter {c : Con} {p : Mu → Bool} {m : Mu} : m ∈ (c.filter p).all ↔ m ∈ c.all ∧ p m = true := by
  rw [Con.mem_all, Con.mem_all]
  show m ∈ c.cells.filter p ∨ m ∈ c.wipes.filter p ∨ m ∈ c.sibs.filter p ↔ _
  simp only [List.mem_filter]
  constructor
  · rintro (⟨h1, h2⟩ | ⟨h1, h2⟩ | ⟨h1, h2⟩)
    · exact ⟨Or.inl h1, h2⟩
    · exact ⟨Or.inr (Or.inl h1), h2⟩
    · exact ⟨Or.inr (Or.inr h1), h2⟩
  · rintro ⟨h1 | h1 | h1, h2⟩
    · exact Or.inl ⟨h1, h2⟩
    · exact Or.inr (Or.inl ⟨h1, h2⟩)
    · exact Or.inr (Or.inr ⟨h1, h2⟩)

/-- Parts of a content are what is left of them. -/
theorem Reps.filter {S : Mu → Prop} {c : Con} (h : Reps S c) (p : Mu → Bool) : Reps (fun m => m ∈ (c.filter p).all) (c.filter p) := by
  have sub : ∀ {m}, m ∈ (c.filter p).all → m ∈ c.all := fun hm => (Con.mem_filter.1 hm).1
  refine ⟨fun m hm => h.fit m (h.in_all (sub hm)), ?_, ?_, ?_, List.Pairwise.filter _ h.rc, List.Pairwise.filter _ h.rw_, List.Pairwise.filter _ h.rs, ?_, ?_, ?_, ?_⟩
  · intro m hm
    exact ⟨Con.mem_all.2 (Or.inl hm), (h.cells m (List.mem_filter.1 hm).1).2⟩
  · intro m hm
    exact ⟨Con.mem_all.2 (Or.inr (Or.inl hm)), (h.wipes m (List.mem_filter.1 hm).1).2⟩
  · intro m
    constructor
    · intro hm
      exact ⟨Con.mem_all.2 (Or.inr (Or.inr hm)), ((h.sibs m).1 (List.mem_filter.1 hm).1).2⟩
    · rintro ⟨h1, h2⟩
      have := Con.mem_filter.1 h1
      exact List.mem_filter.2 ⟨h.all_s this.1 h2, this.2⟩
  · intro m hm w hw
    exact h.free m (List.mem_filter.1 hm).1 w (List.mem_filter.1 hw).1
  · intro x hx y hy
    exact h.alone x (List.mem_filter.1 hx).1 y (List.mem_filter.1 hy).1
  · intro x hx wx
    have := Con.mem_filter.1 hx
    exact ⟨x, List.mem_filter.2 ⟨h.all_w this.1 wx, this.2⟩, within_self x⟩
  · intro x hx cx
    have := Con.mem_filter.1 hx
    exact Or.inl ⟨x, List.mem_filter.2 ⟨h.all_c this.1 cx, this.2⟩, rfl, by rw [muO.self]; omega⟩
theorem Reps.self {S : Mu → Prop} {c : Con} (h : Reps S c) : Reps (fun m => m ∈ c.all) c := by
  have := h.filter fun _ => true
  have ft : ∀ l : List Mu, l.filter (fun _ => true) = l := fun l => List.filter_eq_self.2 fun _ _ => rfl
  have e : c.filter (fun _ => true) = c := by cases c; unfold Con.filter; simp only [ft]
  rw [e] at this
  exact this

/-- All of it, each once. -/
theorem rises_nodup {α : Type} {c : α → α → Int} (h : Tot c) {l : List α} (hl : Rises c l) : l.Nodup := by
  unfold Rises at hl
  exact hl.imp fun {a b} hab e => by subst e; exact h.irrefl a hab
theorem keyC_nodup {l : List Mu} (hl : Rises keyC l) : l.Nodup := by
  unfold Rises at hl
  exact hl.imp fun {a b} hab e => by subst e; exact Tot.str.irrefl _ hab
theorem Reps.nodup {S : Mu → Prop} {c : Con} (h : Reps S c) : c.all.Nodup := by
  unfold Con.all
  refine List.nodup_append.2 ⟨keyC_nodup h.rc, List.nodup_append.2 ⟨rises_nodup muO h.rw_, rises_nodup sibO h.rs, ?_⟩, ?_⟩
  · rintro a ha b hb rfl
    exact (h.wipes a ha).2.1 ((h.sibs a).1 hb).2
  · rintro a ha b hb rfl
    rcases List.mem_append.1 hb with h1 | h1
    · exact (h.cells a ha).2.2 (h.wipes a h1).2.2
    · exact (h.cells a ha).2.1 ((h.sibs a).1 h1).2
theorem rises_of_sorted {α : Type} {c : α → α → Int} (h : Tot c) {l : List α} (hn : l.Nodup) (hl : l.Pairwise fun a b => c a b ≤ 0) : Rises c l := by
  unfold Rises
  refine (hl.and hn).imp fun {a b} hab => ?_
  have h0 : ¬ c a b = 0 := fun e => hab.2 ((h.zero a b).1 e)
  have h1 := hab.1
  omega
/-- The mutations that are left, rising. -/
def AllOf (c : Con) (l : List Mu) : Prop := Rises muC l ∧ ∀ m, m ∈ l ↔ m ∈ c.all
theorem AllOf.unique {c : Con} {l k : List Mu} (h : AllOf c l) (g : AllOf c k) : l = k := Rises.unique muO h.1 g.1 fun x => (h.2 x).trans (g.2 x).symm
theorem AllOf.of_perm {S : Mu → Prop} {c : Con} (h : Reps S c) {l : List Mu} (hp : l.Perm c.all) (hl : l.Pairwise fun a b => muC a b ≤ 0) : AllOf c l :=
  ⟨rises_of_sorted muO (hp.nodup_iff.2 h.nodup) hl, fun _ => hp.mem_iff⟩
theorem Reps.all_eq {S T : Mu → Prop} {c d : Con} (h : Reps S c) (g : Reps T d) {l : List Mu} (hc : AllOf c l) (hd : AllOf d l) : c = d := by
  have e : ∀ m, m ∈ c.all ↔ m ∈ d.all := fun m => (hc.2 m).symm.trans (hd.2 m)
  exact h.self.unique (g.self.same fun m => (e m).symm)
theorem AllOf.eq_iff {S T : Mu → Prop} {c d : Con} (h : Reps S c) (g : Reps T d) {l k : List Mu} (hc : AllOf c l) (hd : AllOf d k) : l = k ↔ c = d := by
  constructor
  · rintro rfl; exact h.all_eq g hc hd
  · rintro rfl; exact hc.unique hd
theorem AllOf.len {S : Mu → Prop} {c : Con} (h : Reps S c) {l : List Mu} (hc : AllOf c l) : l.length = c.all.length := by
  have : l.Perm c.all := (List.perm_ext_iff_of_nodup (rises_nodup muO hc.1) h.nodup).2 hc.2
  exact this.length_eq

/-! One element more, between two parts of a row. -/
theorem rises_take_drop {α : Type} {c : α → α → Int} {l : List α} (h : Rises c l) (i : Nat) (m : α) (h1 : ∀ x ∈ l.take i, c x m < 0) (h2 : ∀ x ∈ l.drop i, c m x < 0) : Rises c (l.take i ++ m :: l.drop i) := by
  unfold Rises at *
  rw [List.pairwise_append]
  have hs : (l.take i ++ l.drop i).Pairwise (fun a b => c a b < 0) := by rw [List.take_append_drop]; exact h
  obtain ⟨p1, p2, p3⟩ := List.pairwise_append.1 hs
  refine ⟨p1, List.pairwise_cons.2 ⟨h2, p2⟩, ?_⟩
  intro a ha b hb
  rcases List.mem_cons.1 hb with rfl | hb
  · exact h1 a ha
  · exact p3 a ha b hb
theorem mem_take_drop {α : Type} {l : List α} {i : Nat} {m x : α} : x ∈ l.take i ++ m :: l.drop i ↔ x ∈ l ∨ x = m := by
  rw [List.mem_append, List.mem_cons]
  have : x ∈ l ↔ x ∈ l.take i ∨ x ∈ l.drop i := by
    conv => lhs; rw [← List.take_append_drop i l, List.mem_append]
  rw [this]
  constructor
  · rintro (h | h | h)
    · exact Or.inl (Or.inl h)
    · exact Or.inr h
    · exact Or.inl (Or.inr h)
  · rintro ((h | h) | h)
    · exact Or.inl h
    · exact Or.inr (Or.inr h)
    · exact Or.inr (Or.inl h)
end Go.Proofs.YtmjelcjdfamikaaGreatDoor.Mut

/- A content with a mutation more (layer 8), in plain Lean: what the places of a search, a wipe, a look at the wipes tell. -/
namespace Go.Proofs.YtmjelcjdfamikaaGreatDoor.Mut
open Go.Proofs.YtmjelcjdfamikaaGreatDoor.Ord
set_option linter.unusedSectionVars false
variable [Inhabited Lim]

theorem Parts.take {c : Mu → Int} {l : List Mu} {i : Nat} (h : Parts c l i) {x : Mu} (hx : x ∈ l.take i) : c x < 0 := by
  obtain ⟨k, hk, e⟩ := List.mem_iff_getElem.1 hx
  have hk' : k < i := by rw [List.length_take] at hk; omega
  rw [List.getElem_take] at e
  exact h.2.1 k x hk' (by rw [List.getElem?_eq_getElem (by rw [List.length_take] at hk; omega), e])
theorem Parts.drop {c : Mu → Int} {l : List Mu} {i : Nat} (h : Parts c l i) {x : Mu} (hx : x ∈ l.drop i) : 0 ≤ c x := by
  obtain ⟨k, hk, e⟩ := List.mem_iff_getElem.1 hx
  rw [List.getElem_drop] at e
  exact h.2.2 (i + k) x (by omega) (by rw [List.getElem?_eq_getElem (by rw [List.length_drop] at hk; omega), e])

theorem isAt_some {c : Mu → Int} {l : List Mu} {i : Nat} (h : isAt c l i = true) : ∃ x, l[i]? = some x ∧ c x = 0 := by
  unfold isAt at h
  cases e : l[i]? with
  | none => rw [e] at h; simp at h
  | some x => rw [e] at h; exact ⟨x, rfl, by simpa using h⟩
theorem isAt_none {c : Mu → Int} {l : List Mu} {i : Nat} (h : isAt c l i = false) : ∀ x, l[i]? = some x → ¬ c x = 0 := by
  intro x e h0
  unfold isAt at h
  rw [e] at h
  simp [h0] at h
theorem get_mem {α : Type} {l : List α} {i : Nat} {x : α} (h : l[i]? = some x) : x ∈ l := by
  obtain ⟨h1, h2⟩ := List.getElem?_eq_some_iff.1 h
  exact h2 ▸ List.getElem_mem h1
/-- Behind a place that isn't the element's own all are above. -/
theorem Parts.above {c : Mu → Int} {d : Mu → Mu → Int} {l : List Mu} {i : Nat} (h : Parts c l i) (hno : isAt c l i = false) (hr : Rises d l) (hd : ∀ x y, d x y < 0 → 0 ≤ c x → 0 < c y) {x : Mu} (hx : x ∈ l.drop i) : 0 < c x := by
  obtain ⟨k, hk, e⟩ := List.mem_iff_getElem.1 hx
  rw [List.getElem_drop] at e
  have hk' : i + k < l.length := by rw [List.length_drop] at hk; omega
  have e' : l[i + k]? = some x := by rw [List.getElem?_eq_getElem hk', e]
  have h0 := h.2.2 (i + k) x (by omega) e'
  by_cases hz : k = 0
  · subst hz
    have := isAt_none hno x e'
    omega
  · have hi : i < l.length := by omega
    have hp := (List.pairwise_iff_getElem.1 hr) i (i + k) hi hk' (by omega)
    rw [e] at hp
    exact hd _ _ hp (h.2.2 i _ (Nat.le_refl _) (List.getElem?_eq_getElem hi))

section
variable {S : Mu → Prop} {c : Con} {m : Mu} {i : Nat}
theorem key_up (m x y : Mu) (h1 : keyC x y < 0) (h2 : 0 ≤ cmpS x.key m.key) : 0 < cmpS y.key m.key := by
  unfold keyC at h1
  have a := Tot.str.swap m.key x.key
  have b := Tot.str.swap m.key y.key
  have h3 : cmpS m.key x.key ≤ 0 := by
    have := Tot.str.swap x.key m.key
    omega
  exact b.1 (Tot.str.le_lt h3 h1)
theorem sib_up (m x y : Mu) (h1 : sibC x y < 0) (h2 : 0 ≤ sibC x m) : 0 < sibC y m := by
  have b := sibO.swap m y
  have h3 : sibC m x ≤ 0 := by
    have := sibO.swap x m
    omega
  exact b.1 (sibO.le_lt h3 h1)
theorem Reps.cell_put (h : Reps S c) (hf : Fit m) (hm : isC m) (hh : ∀ w ∈ c.wipes, ¬ hits w m.key m.at_) (hp : Parts (fun x => cmpS x.key m.key) c.cells i) (hno : isAt (fun x => cmpS x.key m.key) c.cells i = false) :
    Reps (fun x => S x ∨ x = m) ⟨c.cells.take i ++ m :: c.cells.drop i, c.wipes, c.sibs⟩ := by
  have ab : ∀ x ∈ c.cells.drop i, 0 < cmpS x.key m.key := fun x hx => hp.above hno h.rc (key_up m) hx
  have be : ∀ x ∈ c.cells.take i, cmpS x.key m.key < 0 := fun x hx => hp.take hx
  refine h.cell_new hf hm hh (rises_take_drop h.rc i m be fun x hx => (Tot.str.swap m.key x.key).2 (ab x hx)) ?_ ?_ ⟨m, mem_take_drop.2 (Or.inr rfl), rfl, by rw [muO.self]; omega, ?_⟩
  · intro x hx; exact (mem_take_drop.1 hx).symm
  · intro x hx _; exact mem_take_drop.2 (Or.inl hx)
  · intro x hx e
    exfalso
    rw [← List.take_append_drop i c.cells, List.mem_append] at hx
    rcases hx with hx | hx
    · have := be x hx; rw [e, Tot.str.self] at this; omega
    · have := ab x hx; rw [e, Tot.str.self] at this; omega
theorem set_rises (h : Rises keyC c.cells) {x : Mu} (hx : c.cells[i]? = some x) (hk : x.key = m.key) : Rises keyC (c.cells.set i m) := by
  unfold Rises at *
  have : (c.cells.map (·.key)).Pairwise (fun a b => cmpS a b < 0) := List.pairwise_map.2 h
  have e : (c.cells.set i m).map (·.key) = c.cells.map (·.key) := by
    rw [List.map_set, ← hk]
    apply List.ext_getElem?
    intro j
    rw [List.getElem?_set]
    split
    · rename_i hij
      subst hij
      have hi := (List.getElem?_eq_some_iff.1 hx).1
      rw [if_pos (by simpa using hi), List.getElem?_map, hx]; rfl
    · rfl
  rw [← e] at this
  exact List.pairwise_map.1 this
theorem Reps.cell_set (h : Reps S c) (hf : Fit m) (hm : isC m) (hh : ∀ w ∈ c.wipes, ¬ hits w m.key m.at_) {x : Mu} (hx : c.cells[i]? = some x) (hk : x.key = m.key) (hl : muC x m < 0) :
    Reps (fun x => S x ∨ x = m) ⟨c.cells.set i m, c.wipes, c.sibs⟩ := by
  have hi := (List.getElem?_eq_some_iff.1 hx).1
  refine h.cell_new hf hm hh (set_rises h.rc hx hk) ?_ ?_ ⟨m, List.mem_iff_getElem.2 ⟨i, by simpa using hi, by simp⟩, rfl, by rw [muO.self]; omega, ?_⟩
  · intro y hy
    rcases List.mem_or_eq_of_mem_set hy with h1 | h1
    · exact Or.inr h1
    · exact Or.inl h1
  · intro y hy hne
    obtain ⟨j, hj, e⟩ := List.mem_iff_getElem.1 hy
    refine List.mem_iff_getElem.2 ⟨j, by simpa using hj, ?_⟩
    rw [List.getElem_set]
    split
    · rename_i hij
      subst hij
      rw [List.getElem?_eq_getElem hj, e] at hx
      injection hx with hx
      subst hx
      exact absurd hk hne
    · exact e
  · intro y hy e
    rw [keys_one h.rc hy (get_mem hx) (e.trans hk.symm)]
    omega
theorem Reps.cell_keep (h : Reps S c) (hf : Fit m) (hm : isC m) (hh : ∀ w ∈ c.wipes, ¬ hits w m.key m.at_) {x : Mu} (hx : c.cells[i]? = some x) (hk : x.key = m.key) (hl : ¬ muC x m < 0) :
    Reps (fun x => S x ∨ x = m) c := by
  have := h.cell_new hf hm hh (l := c.cells) h.rc (fun y hy => Or.inr hy) (fun y hy _ => hy) ⟨x, get_mem hx, hk, muO.le_of.1 hl, fun y hy e => by
    rw [keys_one h.rc hy (get_mem hx) (e.trans hk.symm), muO.self]; omega⟩
  exact this
theorem Reps.sib_put (h : Reps S c) (hf : Fit m) (hm : isS m) (hp : Parts (fun x => sibC x m) c.sibs i) (hno : isAt (fun x => sibC x m) c.sibs i = false) :
    Reps (fun x => S x ∨ x = m) ⟨c.cells, c.wipes, c.sibs.take i ++ m :: c.sibs.drop i⟩ := by
  refine h.sib hf hm (rises_take_drop h.rs i m (fun x hx => hp.take hx) fun x hx => (sibO.swap m x).2 (hp.above hno h.rs (sib_up m) hx)) ?_
  intro x; exact mem_take_drop
theorem Reps.sib_keep (h : Reps S c) (hf : Fit m) (hm : isS m) (hat : isAt (fun x => sibC x m) c.sibs i = true) : Reps (fun x => S x ∨ x = m) c := by
  obtain ⟨x, hx, e⟩ := isAt_some hat
  obtain rfl := (sibO.zero _ _).1 e
  have := h.sib hf hm (l := c.sibs) h.rs (fun y => ⟨Or.inl, fun h1 => h1.elim id fun e => e ▸ get_mem hx⟩)
  exact this
theorem Reps.wipe_put (h : Reps S c) (hf : Fit m) (hm : isW m) (hno : ∀ x ∈ c.wipes, withinB x m = false) {l : List Mu} (hp : l.Perm (c.wipes.filter (fun x => !withinB m x) ++ [m])) (hs : l.Pairwise fun a b => muC a b ≤ 0) :
    Reps (fun x => S x ∨ x = m) ⟨c.cells.filter fun x => !hitsB m x.key x.at_, l, c.sibs⟩ := by
  have hno' : ∀ x ∈ c.wipes, ¬ within x m := fun x hx e => by rw [within_iff] at e; rw [hno x hx] at e; cases e
  have hnd : l.Nodup := by
    refine hp.nodup_iff.2 (List.nodup_append.2 ⟨(rises_nodup muO h.rw_).filter _, by simp, ?_⟩)
    rintro a ha b hb rfl
    obtain rfl := List.mem_singleton.1 hb
    exact hno' _ (List.mem_filter.1 ha).1 (within_self _)
  refine h.wipe_new hf hm hno' (rises_of_sorted muO hnd hs) (List.Pairwise.filter _ h.rc) ?_ ?_
  · intro x
    rw [hp.mem_iff, List.mem_append, List.mem_filter, List.mem_singleton, within_iff, or_comm]
    simp
  · intro x
    rw [List.mem_filter, hits_iff]
    simp
theorem Reps.wipe_keep (h : Reps S c) (hf : Fit m) (hm : isW m) (hany : c.wipes.any (fun x => withinB x m) = true) : Reps (fun x => S x ∨ x = m) c := by
  obtain ⟨x, hx, e⟩ := List.any_eq_true.1 hany
  exact h.wipe_in hf hm hx ((within_iff _ _).2 e)
end
end Go.Proofs.YtmjelcjdfamikaaGreatDoor.Mut

/- slices.Insert of one element, slices.Delete of one, into and out of rows that the call owns (Mut). PRINTED by wip/genins.py. -/
namespace Go.Proofs.YtmjelcjdfamikaaGreatDoor.SlMut
open Go.RowKit

theorem info_E : (Tryz.prog.info? 40).map (fun i => (i.zero, i.size, i.bytes)) = some (some (.agg #[.int .i64 0, .int .i64 0, .string ByteArray.empty, .string ByteArray.empty, .string ByteArray.empty, .int .i64 0, .int .i64 0, .int .i64 0, .int .i64 0, .slice none 0 0]), 10, 120) := by kernel_rfl
theorem size_E : (Tryz.prog.info? 40).map (·.size) = some 10 := by kernel_rfl
theorem sizeOf_E (w : World) : (Go.sizeOf 40).run Tryz.prog w = .ok 10 w := by kernel_rfl

set_option maxHeartbeats 4000000 in
set_option maxRecDepth 100000 in
/-- at the end. -/
theorem insert_end (base : Nat) (v : Value) (n vb : Nat) (xs news : List Value) (w : World) (hown : w.ownsRow base 40 10 v n xs) (hb : base ≤ w.heap.size) (hn : (n + 1) * 120 ≤ 140737488355328) (hl : news.length = 10)
    (hv : w.heap[vb]? = some (.cells ⟨news⟩ 40 (0, 0))) (h1v : ∀ u ∈ news, u.oneCell' = true) (ob : Option Nat) (hob : v.ownBlock = ob) :
    Calls Tryz.prog 58 #[v, .int .i64 n, .slice (some ⟨vb, 0, none⟩) 1 1] w (InsPost w base 40 10 ob n (xs ++ news)) := by
  obtain ⟨i0, hi, hz0, hz1, hz2⟩ := info_parts info_E
  obtain ⟨ao, cap, rfl⟩ := row_form hown
  have HO := Lib.hid hown
  have HV := Lib.hid hv
  have HB := Lib.hid hob
  have HL := Lib.hid hl
  have hcap : n ≤ cap := by
    rcases hown.2 with ⟨e, _⟩ | ⟨g, c, cur, e, _, _, h3, _⟩
    · cases e; omega
    · cases e; exact h3
  have hcm : cap ≤ 9223372036854775807 := by
    rcases hown.2 with ⟨e, _⟩ | ⟨g, c, cur, e, _, _, _, h4, _⟩
    · cases e; omega
    · cases e; unfold maxLen at h4; omega
  have hcs : ∀ j u, news[j]? = some u → w.cell? ((⟨vb, 0, none⟩ : Addr).add j) = some u := fun j u h => by rw [addr_add, Nat.zero_add, cells_at hv]; exact h
  have HC := Lib.hid hcs
  clear hown hv hl hcs hob
  go_enter Tryz.func58, Tryz.ntmps58
  go_wp2_with (at_builtin; refine wpList_append_lies _ rfl _ _ 22 rfl base 40 i0 (.agg #[.int .i64 0, .int .i64 0, .string ByteArray.empty, .string ByteArray.empty, .string ByteArray.empty, .int .i64 0, .int .i64 0, .int .i64 0, .int .i64 0, .slice none 0 0]) 10 120 Tryz.underlying22 hi hz0 hz1 hz2 rfl (by decide) (.slice ao n cap) n xs rfl HO.out ⟨vb, 0, none⟩ 1 1 news rfl (by rw [HL.out]) HC.out h1v (by decide) (by unfold maxLen; omega) (by omega) hb _ rfl ?_; rw [HB.out]; intro g c w1 ho hg hat hlt)
  all_goals
    go_ret
    exact ⟨g, c, rfl, ho, hg, hat.imp id fun e => by omega⟩

set_option maxHeartbeats 8000000 in
set_option maxRecDepth 100000 in
/-- inside, where there is room. -/
theorem insert_room (base g n cap i vb : Nat) (xs spare news : List Value) (w : World) (hb : base ≤ g) (hg : w.heap[g]? = some (.cells ⟨xs ++ spare⟩ 40 (0, 0))) (hx : xs.length = n * 10) (hsp : (xs ++ spare).length = cap * 10) (hin : i < n) (hcap : n + 1 ≤ cap) (hcm : cap ≤ maxLen) (hl : news.length = 10)
    (hv : w.heap[vb]? = some (.cells ⟨news⟩ 40 (0, 0))) (hvb : vb ≠ g) (h1x : ∀ u ∈ xs, u.oneCell' = true) (h1v : ∀ u ∈ news, u.oneCell' = true) :
    Calls Tryz.prog 58 #[.slice (some ⟨g, 0, none⟩) n cap, .int .i64 i, .slice (some ⟨vb, 0, none⟩) 1 1] w (InsPost w base 40 10 (some g) n (xs.take (i * 10) ++ news ++ xs.drop (i * 10))) := by
  have hlt : g < w.heap.size := (Array.getElem?_eq_some_iff.1 hg).1
  have hcap0 := hcm
  unfold maxLen at hcm
  have hov : ∀ q lb cb, (callFunc 100 #[.slice (some ⟨vb, 0, none⟩) 1 1, .slice (some ⟨g, q, none⟩) lb cb]).run Tryz.prog w = .ok (.value (.bool false)) w := fun q lb cb => by
    rw [run_callFunc_extern Tryz.func100 (by kernel_rfl) (by kernel_rfl) (by kernel_rfl) (e := Extern.SlicesOverlaps.overlaps #[22, 22] #[4]) (by kernel_rfl),
      Lib.run_overlaps_apart w 22 4 40 Tryz.underlying22 10 sizeOf_E ⟨vb, 0, none⟩ ⟨g, q, none⟩ 1 1 lb cb hvb 40 40 news.length (xs ++ spare).length (shape_at hv) (shape_at hg) (by rw [hsp]; omega) (free_at hv _) (free_at hv _)]
    rfl
  obtain ⟨cur, hcur⟩ : ∃ cur, cur = xs ++ spare := ⟨_, rfl⟩
  obtain ⟨cs, hcs⟩ : ∃ cs, cs = xs.drop (i * 10) := ⟨_, rfl⟩
  rw [← hcur] at hg hsp
  have hlc : cs.length = (n - i) * 10 := by rw [hcs, List.length_drop, hx]; omega
  have s1 : ∀ W : World, (∀ x, W.cell? x = w.cell? x) → ∀ j u, cs[j]? = some u → W.cell? ((⟨g, i * 10, none⟩ : Addr).add j) = some u := fun W hW j u h => by
    rw [addr_add, hW, cells_at hg, hcur, List.getElem?_append_left (by
      have := (List.getElem?_eq_some_iff.1 h).1
      rw [hcs, List.length_drop] at this; omega)]
    rw [hcs, List.getElem?_drop] at h
    exact h
  have s2 : ∀ W : World, W.heap[g]? = some (.cells ⟨cur⟩ 40 (0, 0)) → (W.setRow g ⟨splice cur ((i + 1) * 10) cs⟩).heap[g]? = some (.cells ⟨splice cur ((i + 1) * 10) cs⟩ 40 (0, 0)) := fun W hW => setRow_heap W g _ _ _ _ hW
  have s3 : ∀ W : World, W.heap[vb]? = some (.cells ⟨news⟩ 40 (0, 0)) → ∀ j u, news[j]? = some u → (W.setRow g ⟨splice cur ((i + 1) * 10) cs⟩).cell? ((⟨vb, 0, none⟩ : Addr).add j) = some u := fun W hW j u h => by
    rw [addr_add, Nat.zero_add, cells_at ((setRow_other W g vb _ hvb).trans hW)]
    exact h
  have h1c : ∀ u ∈ cs, u.oneCell' = true := fun u hu => h1x u (by rw [hcs] at hu; exact List.mem_of_mem_drop hu)
  have hft : (i + 1) * 10 + cs.length ≤ cur.length := by rw [hsp, hlc]; omega
  have hl1 : (splice cur ((i + 1) * 10) cs).length = cur.length := length_splice _ _ _ hft
  have hft2 : i * 10 + news.length ≤ (splice cur ((i + 1) * 10) cs).length := by rw [hl1, hl]; omega
  have hfin : splice (splice cur ((i + 1) * 10) cs) (i * 10) news = (xs.take (i * 10) ++ news ++ xs.drop (i * 10)) ++ cur.drop ((n + 1) * 10) := by
    have e1 : i * 10 ≤ xs.length := by rw [hx]; omega
    have e2 : (i + 1) * 10 ≤ cur.length := by rw [hsp]; omega
    have e3 : (cur.take ((i + 1) * 10)).length = (i + 1) * 10 := by rw [List.length_take]; omega
    have e4 : i * 10 + news.length = (i + 1) * 10 := by simp only [hl]; try omega
    unfold splice
    rw [e4, List.take_append_of_le_length (by rw [e3]; omega), List.take_take, Nat.min_eq_left (by omega), List.drop_append_of_le_length (by omega), List.drop_of_length_le (by omega), List.nil_append, hlc,
      show (i + 1) * 10 + (n - i) * 10 = (n + 1) * 10 by omega, hcs]
    rw [show cur.take (i * 10) = xs.take (i * 10) by rw [hcur, List.take_append_of_le_length e1]]
    simp only [List.append_assoc]
  have hly : (xs.take (i * 10) ++ news ++ xs.drop (i * 10)).length = (n + 1) * 10 := by
    rw [List.length_append, List.length_append, List.length_take, List.length_drop, hl, hx]; omega
  have hlz : ((xs.take (i * 10) ++ news ++ xs.drop (i * 10)) ++ cur.drop ((n + 1) * 10)).length = cap * 10 := by rw [List.length_append, hly, List.length_drop, hsp]; omega
  have HG := Lib.hid hg
  have HV := Lib.hid hv
  have HL := Lib.hid hl
  have HLC := Lib.hid hlc
  have HF := Lib.hid hfin
  have HY := Lib.hid hly
  have HZ := Lib.hid hlz
  have HFT := Lib.hid hft
  have HFT2 := Lib.hid hft2
  have S1 := Lib.hid s1
  have S2 := Lib.hid s2
  have S3 := Lib.hid s3
  have H1C := Lib.hid h1c
  have H1V := Lib.hid h1v
  have a1 : IntKind.i64.wrap ((i : Int) + 1) = (i : Int) + 1 := IntWalk.i64_in _ (by omega)
  have a2 : (0 : Int) ≤ (i : Int) + 1 := by omega
  have a3 : ((i : Int) + 1).toNat = i + 1 := by omega
  have a4 : (i : Int) ≤ (n : Int) := by omega
  have a5 : (i : Int) ≤ (n : Int) + 1 := by omega
  have b1 : ¬ (cap = i) := by omega
  have b2 : ¬ (cap = i + 1) := by omega
  have b3 : (i : Int) < (n : Int) := by omega
  have b4 : ¬ ((i : Int) = (n : Int)) := by omega
  have b5 : ¬ ((cap : Int) < (n : Int) + 1) := by omega
  clear hg hv hsp hl hlc hl1 hfin hx hcur hcs s1 s2 s3 hft hft2 hly hlz h1c h1v h1x
  go_enter Tryz.func58, Tryz.ntmps58
  go_wp2_with (simp only [hov])
  clear hov
  go_region_law (refine step_copy_k rfl _ _ 22 22 rfl 40 10 Tryz.underlying22 size_E g ((i + 1) * 10) (n - i) (cap - (i + 1)) ⟨g, i * 10, none⟩ (n + 1 - i) (cap - i) (by simp [Act.eval, Act.put]) (by simp [Act.eval, Act.put]) cur 40 HG.out (n - i) cs HLC.out (by simp only [Nat.min_def]; split <;> omega) (S1.out _ (fun _ => rfl)) HFT.out H1C.out ?_)
  go_wp2_with (refine wpList_copy_k _ rfl (.tmp 80) (.tmp 81) 22 22 rfl 40 10 Tryz.underlying22 size_E g (i * 10) _ _ ⟨vb, 0, none⟩ 1 1 rfl rfl (splice cur ((i + 1) * 10) cs) 40 (S2.out _ HG.out) 1 news HL.out (by simp only [Nat.min_def]; split <;> omega) (S3.out _ HV.out) HFT2.out H1V.out ?_)
  all_goals
    go_ret
    refine ⟨g, cap, rfl, own_mk hb (spare := cur.drop ((n + 1) * 10)) ?_ hcap hcap0 HZ.out HY.out, ?_, Or.inl rfl⟩
    · rw [← HF.out]
      exact setRow_heap _ g _ _ _ _ (S2.out _ HG.out)
    · exact grown_setRow (grown_setRow (grown_drew (grown_refl w (some g))) (Or.inl rfl) _) (Or.inl rfl) _

set_option maxHeartbeats 8000000 in
set_option maxRecDepth 100000 in
/-- inside, where there is none. -/
theorem insert_grow (base g n cap i vb : Nat) (xs spare news : List Value) (w : World) (hb : base ≤ w.heap.size) (hg : w.heap[g]? = some (.cells ⟨xs ++ spare⟩ 40 (0, 0))) (hx : xs.length = n * 10) (hin : i < n) (hnc : n ≤ cap) (hcap : cap < n + 1) (hcm : cap ≤ maxLen) (hbig : (n + 1) * 120 ≤ 140737488355328) (hl : news.length = 10)
    (hv : w.heap[vb]? = some (.cells ⟨news⟩ 40 (0, 0))) (h1x : ∀ u ∈ xs, u.oneCell' = true) (h1v : ∀ u ∈ news, u.oneCell' = true) :
    Calls Tryz.prog 58 #[.slice (some ⟨g, 0, none⟩) n cap, .int .i64 i, .slice (some ⟨vb, 0, none⟩) 1 1] w (InsPost w base 40 10 (some g) n (xs.take (i * 10) ++ news ++ xs.drop (i * 10))) := by
  obtain ⟨i0, hi, hz0, hz1, hz2⟩ := info_parts info_E
  have hlt : g < w.heap.size := (Array.getElem?_eq_some_iff.1 hg).1
  have hvt : vb < w.heap.size := (Array.getElem?_eq_some_iff.1 hv).1
  unfold maxLen at hcm
  obtain ⟨cs, hcs⟩ : ∃ cs, cs = xs.drop (i * 10) := ⟨_, rfl⟩
  have hlc : cs.length = (n - i) * 10 := by rw [hcs, List.length_drop, hx]; omega
  have hold : (Builtin.firstCells i0.size i (.slice (some ⟨g, 0, none⟩) i cap)).run Tryz.prog w.drew = .ok (xs.take (i * 10)).toArray w.drew := by
    rw [hz1]
    exact run_firstCells_some w.drew 10 i ⟨g, 0, none⟩ i cap (xs.take (i * 10)) (by rw [List.length_take, hx]; omega) (fun j v hj => by
      rw [addr_add, Nat.zero_add]
      show w.cell? _ = _
      rw [cells_at hg, List.getElem?_append_left (by have := (List.getElem?_eq_some_iff.1 hj).1; rw [List.length_take] at this; omega)]
      rw [List.getElem?_take] at hj
      split at hj
      · exact hj
      · cases hj)
  obtain ⟨G, hG⟩ : ∃ G, G = grownCap w (n + 1) cap 40 := ⟨_, rfl⟩
  obtain ⟨row, hrow⟩ : ∃ row : List Value, row = xs.take (i * 10) ++ ((Builtin.zeroCells (.agg #[.int .i64 0, .int .i64 0, .string ByteArray.empty, .string ByteArray.empty, .string ByteArray.empty, .int .i64 0, .int .i64 0, .int .i64 0, .int .i64 0, .slice none 0 0] : Value).cells (n + 1 - i)).toList ++ (Builtin.zeroCells (.agg #[.int .i64 0, .int .i64 0, .string ByteArray.empty, .string ByteArray.empty, .string ByteArray.empty, .int .i64 0, .int .i64 0, .int .i64 0, .int .i64 0, .slice none 0 0] : Value).cells (G - (n + 1))).toList) := ⟨_, rfl⟩
  have hGn : n + 1 ≤ G := by rw [hG]; exact grownCap_ge w _ _ _
  have hGm : G ≤ maxLen := by rw [hG]; exact grownCap_le_maxLen w (n + 1) cap 40 (by unfold maxLen; omega)
  have hrz : ∀ ty (q : Int), q = ((n + 1 - i : Nat) : Int) → (Builtin.append_ #[22, 3] ty #[.slice (some ⟨g, 0, none⟩) i cap, .int .i64 q]).run Tryz.prog w = .ok (.slice (some ⟨w.heap.size, 0, none⟩) (n + 1) G) (w.drew.alloc (.cells ⟨row⟩ 40)) := fun ty q hq => by
    have h := Lib.run_append_grow_zeros w 22 3 ty 40 i0 _ .i64 .i64 Tryz.underlying22 Tryz.underlying3 hi hz0 (some ⟨g, 0, none⟩) i cap (xs.take (i * 10)) hold (n + 1 - i) (by omega) (by omega) (by omega) (by omega) (by rw [hz2]; omega) (by rw [hz2, show i + (n + 1 - i) = n + 1 by omega]; exact growslice_fits hcap hbig)
    rw [show i + (n + 1 - i) = n + 1 by omega, ← hG] at h
    rw [hq, h, hrow]
    congr 4
    apply Array.ext'
    simp
  have hrl : row.length = G * 10 := by
    have e1 : ((.agg #[.int .i64 0, .int .i64 0, .string ByteArray.empty, .string ByteArray.empty, .string ByteArray.empty, .int .i64 0, .int .i64 0, .int .i64 0, .int .i64 0, .slice none 0 0] : Value).cells).size = 10 := rfl
    simp only [hrow, List.length_append, Array.length_toList, size_zeroCells, List.length_take, hx, e1]
    omega
  obtain ⟨H, hH⟩ : ∃ H, H = w.heap.size := ⟨_, rfl⟩
  have q0 : ∀ W : World, W.heap[H]? = some (.cells ⟨row⟩ 40 (0, 0)) → (W.setRow H ⟨splice row (i * 10) news⟩).heap[H]? = some (.cells ⟨splice row (i * 10) news⟩ 40 (0, 0)) := fun W hW => setRow_heap W H _ _ _ _ hW
  have q1 : ((w.alloc (.cells ⟨row⟩ 40)).drew).heap[H]? = some (.cells ⟨row⟩ 40 (0, 0)) := by rw [hH]; show (w.heap.push _)[w.heap.size]? = _; simp
  have q2 : ∀ j u, news[j]? = some u → ((w.alloc (.cells ⟨row⟩ 40)).drew).cell? ((⟨vb, 0, none⟩ : Addr).add j) = some u := fun j u h => by
    rw [addr_add, Nat.zero_add]
    have e : ((w.alloc (.cells ⟨row⟩ 40)).drew).heap[vb]? = w.heap[vb]? := Below.heap_alloc w _ vb hvt
    rw [cells_at (e.trans hv)]; exact h
  have q3 : ∀ W : World, W.heap[g]? = w.heap[g]? → ∀ j u, cs[j]? = some u → W.cell? ((⟨g, i * 10, none⟩ : Addr).add j) = some u := fun W hW j u h => by
    rw [addr_add, cells_at (hW.trans hg), List.getElem?_append_left (by
      have := (List.getElem?_eq_some_iff.1 h).1
      rw [hcs, List.length_drop] at this; omega)]
    rw [hcs, List.getElem?_drop] at h
    exact h
  have q4 : (((w.alloc (.cells ⟨row⟩ 40)).drew.setRow H ⟨splice row (i * 10) news⟩).drew).heap[g]? = w.heap[g]? := (setRow_other _ H g _ (by omega)).trans (Below.heap_alloc w _ g hlt)
  have h1c : ∀ u ∈ cs, u.oneCell' = true := fun u hu => h1x u (by rw [hcs] at hu; exact List.mem_of_mem_drop hu)
  have hft : i * 10 + news.length ≤ row.length := by rw [hrl, hl]; omega
  have hl1 : (splice row (i * 10) news).length = row.length := length_splice _ _ _ hft
  have hft2 : (i + 1) * 10 + cs.length ≤ (splice row (i * 10) news).length := by rw [hl1, hrl, hlc]; omega
  have hfin : splice (splice row (i * 10) news) ((i + 1) * 10) cs = (xs.take (i * 10) ++ news ++ xs.drop (i * 10)) ++ (splice row (i * 10) news).drop ((n + 1) * 10) := by
    have e1 : i * 10 ≤ xs.length := by rw [hx]; omega
    have e2 : (xs.take (i * 10)).length = i * 10 := by rw [List.length_take]; omega
    have e4 : i * 10 + news.length = (i + 1) * 10 := by simp only [hl]; try omega
    have e5 : row.take (i * 10) = xs.take (i * 10) := by rw [hrow, List.take_append_of_le_length (by omega), List.take_take, Nat.min_self]
    have e6 : (splice row (i * 10) news).take ((i + 1) * 10) = xs.take (i * 10) ++ news := by
      unfold splice
      rw [e5, ← List.append_assoc, List.take_append_of_le_length (by rw [List.length_append, e2, e4]; omega), List.take_of_length_le (by rw [List.length_append, e2, e4]; omega)]
    rw [show splice (splice row (i * 10) news) ((i + 1) * 10) cs = (splice row (i * 10) news).take ((i + 1) * 10) ++ (cs ++ (splice row (i * 10) news).drop ((i + 1) * 10 + cs.length)) from rfl, e6, hlc, show (i + 1) * 10 + (n - i) * 10 = (n + 1) * 10 by omega, hcs]
    simp only [List.append_assoc]
  have hly : (xs.take (i * 10) ++ news ++ xs.drop (i * 10)).length = (n + 1) * 10 := by
    rw [List.length_append, List.length_append, List.length_take, List.length_drop, hl, hx]; omega
  have hlz : ((xs.take (i * 10) ++ news ++ xs.drop (i * 10)) ++ (splice row (i * 10) news).drop ((n + 1) * 10)).length = G * 10 := by rw [List.length_append, hly, List.length_drop, hl1, hrl]; omega
  have HHH := Lib.hid hH
  have HG := Lib.hid hg
  have HV := Lib.hid hv
  have HL := Lib.hid hl
  have HLC := Lib.hid hlc
  have HF := Lib.hid hfin
  have HY := Lib.hid hly
  have HZ := Lib.hid hlz
  have HFT := Lib.hid hft
  have HFT2 := Lib.hid hft2
  have Q0 := Lib.hid q0
  have Q1 := Lib.hid q1
  have Q2 := Lib.hid q2
  have Q3 := Lib.hid q3
  have Q4 := Lib.hid q4
  have RZ := Lib.hid hrz
  have H1C := Lib.hid h1c
  have H1V := Lib.hid h1v
  have hGm' := hGm
  unfold maxLen at hGm'
  have a1 : IntKind.i64.wrap ((i : Int) + 1) = (i : Int) + 1 := IntWalk.i64_in _ (by omega)
  have a2 : (0 : Int) ≤ (i : Int) + 1 := by omega
  have a3 : ((i : Int) + 1).toNat = i + 1 := by omega
  have a4 : (i : Int) ≤ (n : Int) := by omega
  have a5 : (i : Int) ≤ (n : Int) + 1 := by omega
  have b1 : ¬ (cap = i) := by omega
  have b2 : ¬ (G = i + 1) := by omega
  have b6 : ¬ (G = i) := by omega
  have b3 : (i : Int) < (n : Int) := by omega
  have b4 : ¬ ((i : Int) = (n : Int)) := by omega
  have b5 : (cap : Int) < (n : Int) + 1 := by omega
  have hbH : base ≤ H := by omega
  have hw1 : (w.heap.size : Nat) = H := hH.symm
  clear hg hv hl hlc hl1 hfin hx hcs hold hrow hG hH hrz hrl q0 q1 q2 q3 q4 hft hft2 hly hlz h1c h1v h1x hi hz0 hz1 hz2
  rw [hw1] at RZ
  have HW1 := Lib.hid hw1
  clear hw1
  go_enter Tryz.func58, Tryz.ntmps58
  go_wp2_with (first
    | (at_builtin; refine Lib.wpList_append_run _ rfl _ _ 22 3 rfl _ _ rfl rfl _ _ (RZ.out _ _ (by omega)) ?_)
    | (refine wpList_copy_k _ rfl (.tmp 43) (.tmp 44) 22 22 rfl 40 10 Tryz.underlying22 size_E H (i * 10) _ _ ⟨vb, 0, none⟩ 1 1 rfl rfl row 40 Q1.out 1 news HL.out (by simp only [Nat.min_def]; split <;> omega) Q2.out HFT.out H1V.out ?_))
  go_region_law (refine step_copy_k rfl _ _ 22 22 rfl 40 10 Tryz.underlying22 size_E H ((i + 1) * 10) (n - i) (G - (i + 1)) ⟨g, i * 10, none⟩ (n - i) (cap - i) (by simp [Act.eval, Act.put]) (by simp [Act.eval, Act.put]) (splice row (i * 10) news) 40 (Q0.out _ Q1.out) (n - i) cs HLC.out (by simp only [Nat.min_def]; split <;> omega) (Q3.out _ Q4.out) HFT2.out H1C.out ?_)
  go_wp2_with fail
  go_ret
  refine ⟨H, G, rfl, own_mk hbH (spare := (splice row (i * 10) news).drop ((n + 1) * 10)) ?_ hGn hGm HZ.out HY.out, ?_, Or.inr (by rw [HHH.out]; exact Nat.le_refl _)⟩
  · rw [← HF.out]
    exact setRow_heap _ H _ _ _ _ (Q0.out _ Q1.out)
  · exact grown_setRow (grown_drew (grown_setRow (grown_drew (grown_alloc (grown_refl w (some g)) _)) (Or.inr (by rw [HHH.out]; exact Nat.le_refl _)) _)) (Or.inr (by rw [HHH.out]; exact Nat.le_refl _)) _

/-- slices.Insert of one element. -/
theorem insert_any (base : Nat) (v : Value) (n i vb : Nat) (xs news : List Value) (w : World) (hown : w.ownsRow base 40 10 v n xs) (hb : base ≤ w.heap.size) (hin : i ≤ n) (hn : (n + 1) * 120 ≤ 140737488355328) (hl : news.length = 10)
    (hv : w.heap[vb]? = some (.cells ⟨news⟩ 40 (0, 0))) (h1x : ∀ u ∈ xs, u.oneCell' = true) (h1v : ∀ u ∈ news, u.oneCell' = true) (ob : Option Nat) (hob : v.ownBlock = ob) (hvb : ob ≠ some vb) :
    Calls Tryz.prog 58 #[v, .int .i64 i, .slice (some ⟨vb, 0, none⟩) 1 1] w (InsPost w base 40 10 ob n (xs.take (i * 10) ++ news ++ xs.drop (i * 10))) := by
  by_cases h : i = n
  · subst h
    have hx := hown.1
    rw [List.take_of_length_le (by omega), List.drop_of_length_le (by omega), List.append_nil]
    exact insert_end base v i vb xs news w hown hb hn hl hv h1v ob hob
  · obtain ⟨g, cap, spare, rfl, h1, h2, h3, h4, h5, h6, h7⟩ := own_whole hown (by omega)
    subst hob
    by_cases hc : n + 1 ≤ cap
    · exact insert_room base g n cap i vb xs spare news w h1 h3 h7 h6 (by omega) hc h5 hl hv (fun e => hvb (by rw [e]; rfl)) h1x h1v
    · exact insert_grow base g n cap i vb xs spare news w hb h3 h7 (by omega) h4 (by omega) h5 hn hl hv h1x h1v

/-- What a deletion of one element says. -/
def DelPost (w : World) (base g cap n : Nat) (ys : List Value) (en : Ending) (w' : World) : Prop :=
  en = .returned (.slice (some ⟨g, 0, none⟩) n cap) ∧ w'.ownsRow base 40 10 (.slice (some ⟨g, 0, none⟩) n cap) n ys ∧ w.grownBy w' (some g)

theorem zero_E (w : World) : (zeroValue 40).run Tryz.prog w = .ok (.agg #[.int .i64 0, .int .i64 0, .string ByteArray.empty, .string ByteArray.empty, .string ByteArray.empty, .int .i64 0, .int .i64 0, .int .i64 0, .int .i64 0, .slice none 0 0]) w := by kernel_rfl
end Go.Proofs.YtmjelcjdfamikaaGreatDoor.SlMut

/- Contents in memory (layer 8): three rows of mutations that may be; state.Covered, state.place walked. -/
namespace Go.Proofs.YtmjelcjdfamikaaGreatDoor.Mut
open Go.RowKit Go.Sort Go.Proofs.YtmjelcjdfamikaaGreatDoor.Ord
set_option linter.unusedSectionVars false
variable [Inhabited Lim]

/-- What a mutation that may be is short of. -/
theorem keyF_size {s : ByteArray} (h : keyF s = true) : s.size ≤ 24 := by
  unfold keyF at h
  simp only [Bool.and_eq_true, decide_eq_true_eq] at h
  exact h.1.2
theorem valF_size {s : ByteArray} (h : valF s = true) : s.size ≤ 64 := by
  unfold valF at h
  simp only [Bool.and_eq_true, decide_eq_true_eq] at h
  exact h.1
theorem empty_size {s : ByteArray} (h : s.toList.isEmpty = true) : s.size = 0 := by
  have : s.toList = [] := List.isEmpty_iff.1 h
  rw [ByteArray.toList_eq] at this
  have h2 := congrArg List.length this
  simpa using h2
structure Small (m : Mu) : Prop where
  key : m.key.size ≤ 1000000
  fin : m.fin.size ≤ 1000000
  val : m.val.size ≤ 1000000
  over : m.over.length ≤ 1000000
theorem small_right {m : Mu} (h : rightF m = true) : Small m := by
  unfold rightF rightG at h
  simp only [Bool.and_eq_true, Bool.not_eq_true', Bool.or_eq_false_iff, Bool.and_eq_false_iff, decide_eq_true_eq, decide_eq_false_iff_not, Bool.not_eq_false'] at h
  obtain ⟨-, h2, h3, -, h4, h5, -⟩ := h
  have k1 := keyF_size h2
  have k2 := valF_size h4.2
  have k3 : m.over.length ≤ 24 := by
    unfold overF at h3
    simp only [Bool.and_eq_true, decide_eq_true_eq] at h3
    exact h3.2
  have k4 : m.fin.size ≤ 24 := by
    by_cases hk : m.kind = 3
    · have := h5.2
      rcases this with h | h
      · exact absurd hk h
      · exact keyF_size h.1
    · have := h5.1
      rcases this with h | h
      · exact absurd h hk
      · have := empty_size h; omega
  exact ⟨by omega, by omega, by omega, by omega⟩

/-- A slice of mutations reads as these. -/
def Reads (w : World) (v : Value) (l : List Mu) : Prop := ∃ R : List Ro, R.map (·.1) = l ∧ MRow w v R
theorem Reads.below {w w' : World} {v : Value} {l : List Mu} (h : Reads w v l) (hb : RowKit.Below w.heap.size w w') : Reads w' v l := by
  obtain ⟨R, e, hR⟩ := h
  exact ⟨R, e, hR.below hb⟩
theorem Reads.nil (w : World) : Reads w (.slice none 0 0) [] := ⟨[], rfl, MRow.nil w⟩
theorem Reads.form {w : World} {v : Value} {l : List Mu} (h : Reads w v l) : ∃ ao cap, v = .slice ao l.length cap ∧ l.length ≤ cap ∧ cap ≤ maxLen := by
  obtain ⟨R, e, hR⟩ := h
  obtain ⟨ao, cap, h1, h2, h3⟩ := hR.form
  have : l.length = R.length := by rw [← e]; simp
  rw [this]
  exact ⟨ao, cap, h1, h2, h3⟩
structure Lies (w : World) (a b d : Value) (c : Con) : Prop where
  cells : Reads w a c.cells
  wipes : Reads w b c.wipes
  sibs : Reads w d c.sibs
theorem Lies.below {w w' : World} {a b d : Value} {c : Con} (h : Lies w a b d c) (hb : RowKit.Below w.heap.size w w') : Lies w' a b d c := ⟨h.cells.below hb, h.wipes.below hb, h.sibs.below hb⟩
theorem Lies.none (w : World) : Lies w (.slice none 0 0) (.slice none 0 0) (.slice none 0 0) ⟨[], [], []⟩ := ⟨Reads.nil w, Reads.nil w, Reads.nil w⟩
/-- Contents of so many mutations that may be. -/
structure Okc (c : Con) (n : Nat) : Prop where
  right : ∀ m ∈ c.all, rightF m = true
  len : c.all.length ≤ n
theorem Okc.more {c : Con} {n k : Nat} (h : Okc c n) (hk : n ≤ k) : Okc c k := ⟨h.right, Nat.le_trans h.len hk⟩
theorem Okc.lens {c : Con} {n : Nat} (h : Okc c n) : c.cells.length ≤ n ∧ c.wipes.length ≤ n ∧ c.sibs.length ≤ n := by
  have := h.len
  unfold Con.all at this
  simp only [List.length_append] at this
  exact ⟨by omega, by omega, by omega⟩

/-- The three cells of a content's variable, which may be written. -/
structure C3 (w : World) (k : Nat) (a b d : Value) : Prop where
  lt : k < w.heap.size
  c0 : w.cell? ⟨k, 0, none⟩ = some a
  c1 : w.cell? ⟨k, 1, none⟩ = some b
  c2 : w.cell? ⟨k, 2, none⟩ = some d
  f0 : w.frozen? ⟨k, 0, none⟩ = false
  f1 : w.frozen? ⟨k, 1, none⟩ = false
  f2 : w.frozen? ⟨k, 2, none⟩ = false
theorem C3.new (w : World) (a b d : Value) : C3 (w.alloc (.cells #[a, b, d] 26)) w.heap.size a b d :=
  ⟨by simp, by go_simp, by go_simp, by go_simp, by go_simp, by go_simp, by go_simp⟩
theorem C3.below {w w' : World} {k : Nat} {a b d : Value} (h : C3 w k a b d) (hb : RowKit.Below w.heap.size w w') : C3 w' k a b d := by
  have e : ∀ o, w'.cell? ⟨k, o, none⟩ = w.cell? ⟨k, o, none⟩ := fun o => hb.cell (p := ⟨k, o, none⟩) h.lt
  have f : ∀ o, w'.frozen? ⟨k, o, none⟩ = w.frozen? ⟨k, o, none⟩ := fun o => hb.frozen (p := ⟨k, o, none⟩) h.lt
  obtain ⟨h0, h1, h2, h3, h4, h5, h6⟩ := h
  exact ⟨Nat.lt_of_lt_of_le h0 hb.size, (e _).trans h1, (e _).trans h2, (e _).trans h3, (f _).trans h4, (f _).trans h5, (f _).trans h6⟩
/-- A content stored into a variable. -/
theorem c3_put {w : World} {k : Nat} {a b d : Value} (h : C3 w k a b d) (a' b' d' : Value) : C3 (((w.setCell ⟨k, 0, none⟩ a').setCell ⟨k, 1, none⟩ b').setCell ⟨k, 2, none⟩ d') k a' b' d' := by
  obtain ⟨h0, h1, h2, h3, h4, h5, h6⟩ := h
  exact ⟨by simpa using h0, by go_simp, by go_simp, by go_simp, by go_simp, by go_simp, by go_simp⟩
theorem c3_put_below {w0 w : World} {k n : Nat} (h : RowKit.Below n w0 w) (hk : n ≤ k) (a' b' d' : Value) : RowKit.Below n w0 (((w.setCell ⟨k, 0, none⟩ a').setCell ⟨k, 1, none⟩ b').setCell ⟨k, 2, none⟩ d') :=
  ((h.setCell (p := ⟨k, 0, none⟩) hk _).setCell (p := ⟨k, 1, none⟩) hk _).setCell (p := ⟨k, 2, none⟩) hk _

set_option maxHeartbeats 1000000 in
set_option maxRecDepth 100000 in
theorem covered_any (a b d : Value) (l : List Mu) (key : ByteArray) (s : Stp) (w : World) (hb : Reads w b l) (hn : l.length ≤ 1000000) :
    Calls Tryz.prog 68 #[.agg #[a, b, d], .string key, .agg #[.int .i64 s.p, .int .i64 s.l, .int .i64 s.w]] w fun e w' => e = .returned (.bool (l.any fun x => hitsB x key s)) ∧ RowKit.Below w.heap.size w w' := by
  obtain ⟨R, rfl, hR⟩ := hb
  obtain ⟨bo, bc, rfl, -, -⟩ := hR.form
  have hf := hR.forms
  have hl : R.length ≤ 1000000 := by simpa using hn
  have HC := Lib.hid (fun (W : World) (hW : RowKit.Below w.heap.size w W) (hp : Asks W none 108 #[.pointer (some ⟨w.heap.size + 1, 0, none⟩), .pointer (some ⟨w.heap.size + 1 + 1, 0, none⟩)] (fun x => hitsB x key s)) =>
    contains_any (.slice bo R.length bc) R 108 #[.pointer (some ⟨w.heap.size + 1, 0, none⟩), .pointer (some ⟨w.heap.size + 1 + 1, 0, none⟩)] (fun x => hitsB x key s) none W (hR.row.below hW) hf hl hp (enters_of Tryz.func108 (by kernel_rfl) rfl))
  clear hR hf hl hn
  obtain ⟨n, hN⟩ : ∃ n, n = R.length := ⟨_, rfl⟩
  obtain ⟨Q, hQ⟩ : ∃ Q, Q = (R.map (·.1)).any (fun x => hitsB x key s) := ⟨_, rfl⟩
  rw [← hN, ← hQ] at HC ⊢
  clear hN hQ
  go_enter Tryz.func68, Tryz.ntmps68
  go_wp2_with fail
  have hB := Lib.hid (((((Below.refl _ w).alloc (Nat.le_refl _) (.cells #[a, .slice bo n bc, d] 26)).alloc (by simp) (.cells #[.string key] 9))).alloc (by simp; omega) (.cells #[.int .i64 s.p, .int .i64 s.l, .int .i64 s.w] 37))
  refine (HC.out _ hB.out (ask_cov key s _ _ _ _ (by simp) (by simp) (by go_simp) (by go_simp) (by go_simp) (by go_simp) (by simp) (by simp))).mono ?_
  rintro e w2 ⟨rfl, hb⟩
  have HB := Lib.hid (below_then hB.out (Nat.le_refl _) hb)
  clear hb
  go_wp2_with fail
  go_ret
  exact ⟨rfl, HB.out⟩

set_option maxHeartbeats 1000000 in
theorem place_any (v : Value) (R : List Ro) (key : ByteArray) (w : World) (hv : MRow w v R) (hn : R.length ≤ 1000000) (hr : Rises keyC (R.map (·.1))) :
    Calls Tryz.prog 69 #[v, .string key] w fun e w' => ∃ i, Parts (fun x => cmpS x.key key) (R.map (·.1)) i ∧ e = .returned (.tuple #[.int .i64 (i : Nat), .bool (isAt (fun x => cmpS x.key key) (R.map (·.1)) i)]) ∧ RowKit.Below w.heap.size w w' := by
  have HC := Lib.hid (fun W (hW : RowKit.Below w.heap.size w W) => bskey_any v R key (fun x => cmpS x.key key) W (hv.row.below hW) hv.forms hn (fun x hx z hz => (place1_any x key z (hv.forms x hx)).mono fun _ _ h => ⟨h.1, h.2⟩) (fun a b x y hab hx hy hc => by
    obtain ⟨h1, h1'⟩ := List.getElem?_eq_some_iff.1 hx
    obtain ⟨h2, h2'⟩ := List.getElem?_eq_some_iff.1 hy
    have := (List.pairwise_iff_getElem.1 hr) a b h1 h2 hab
    rw [h1', h2'] at this
    exact Tot.str.trans _ _ _ this hc))
  obtain ⟨ao, cap, rfl, -, -⟩ := hv.form
  clear hv hr
  obtain ⟨n, hN⟩ : ∃ n, n = R.length := ⟨_, rfl⟩
  rw [← hN] at HC ⊢
  clear hN
  go_enter Tryz.func69, Tryz.ntmps69
  go_wp2_with fail
  refine (HC.out _ (Below.refl _ _)).mono ?_
  rintro e w2 ⟨i, hi, rfl, hb⟩
  have HI := Lib.hid hi
  clear hi
  go_wp2_with fail
  go_ret2
  exact ⟨i, HI.out, rfl, hb⟩
end Go.Proofs.YtmjelcjdfamikaaGreatDoor.Mut
