/- Contents in plain Lean (layer 8): parts of a content are what is left of themselves; all of a content, rising, tells it. -/
import Derived.Test.YtgcfhlleaekgfaaGreatDoorMuts
namespace Go.Proofs.YtgcfhlleaekgfaaGreatDoor.Mut
open Go.Proofs.YtgcfhlleaekgfaaGreatDoor.Ord

theorem Con.mem_all {c : Con} {m : Mu} : m ∈ c.all ↔ m ∈ c.cells ∨ m ∈ c.wipes ∨ m ∈ c.sibs := by
  unfold Con.all
  simp
theorem within_self (m : Mu) : within m m := by unfold within; rw [Tot.str.self, Tot.str.self, stO.self]; omega
theorem Reps.in_all {S : Mu → Prop} {c : Con} (h : Reps S c) {m : Mu} (hm : m ∈ c.all) : S m := by
  rcases Con.mem_all.1 hm with h1 | h1 | h1
  · exact (h.cells m h1).1
  · exact (h.wipes m h1).1
  · exact ((h.sibs m).1 h1).1
theorem Reps.all_c {S : Mu → Prop} {c : Con} (h : Reps S c) {m : Mu} (hm : m ∈ c.all) (k : isC m) : m ∈ c.cells := by
  rcases Con.mem_all.1 hm with h1 | h1 | h1
  · exact h1
  · exact absurd (h.wipes m h1).2.2 k.2
  · exact absurd ((h.sibs m).1 h1).2 k.1
theorem Reps.all_w {S : Mu → Prop} {c : Con} (h : Reps S c) {m : Mu} (hm : m ∈ c.all) (k : isW m) : m ∈ c.wipes := by
  rcases Con.mem_all.1 hm with h1 | h1 | h1
  · exact absurd k.2 (h.cells m h1).2.2
  · exact h1
  · exact absurd ((h.sibs m).1 h1).2 k.1
theorem Reps.all_s {S : Mu → Prop} {c : Con} (h : Reps S c) {m : Mu} (hm : m ∈ c.all) (k : isS m) : m ∈ c.sibs := by
  rcases Con.mem_all.1 hm with h1 | h1 | h1
  · exact absurd k (h.cells m h1).2.1
  · exact absurd k (h.wipes m h1).2.1
  · exact h1

def Con.filter (c : Con) (p : Mu → Bool) : Con := ⟨c.cells.filter p, c.wipes.filter p, c.sibs.filter p⟩
theorem Con.mem_filter {c : Con} {p : Mu → Bool} {m : Mu} : m ∈ (c.filter p).all ↔ m ∈ c.all ∧ p m = true := by
  rw [Con.mem_all, Con.mem_all]
  show m ∈ c.cells.filter p ∨ m ∈ c.wipes.filter p ∨ m ∈ c.sibs.filter p ↔ _
  simp only [List.mem_filter]
  constructor
  · rintro (⟨h1, h2⟩ | ⟨h1, h2⟩ | ⟨h1, h2⟩)
    · exact ⟨Or.inl h1, h2⟩
    · exact ⟨Or.inr (Or.inl h1), h2⟩
    · exact ⟨Or.inr (Or.inr h1), h2⟩
  · rintro ⟨h1 | h1 | h1, h2⟩
    · exact Or.inl ⟨h1, h2⟩
    · exact Or.inr (Or.inl ⟨h1, h2⟩)
    · exact Or.inr (Or.inr ⟨h1, h2⟩)

/-- Parts of a content are what is left of them. -/
theorem Reps.filter {S : Mu → Prop} {c : Con} (h : Reps S c) (p : Mu → Bool) : Reps (fun m => m ∈ (c.filter p).all) (c.filter p) := by
  have sub : ∀ {m}, m ∈ (c.filter p).all → m ∈ c.all := fun hm => (Con.mem_filter.1 hm).1
  refine ⟨fun m hm => h.fit m (h.in_all (sub hm)), ?_, ?_, ?_, List.Pairwise.filter _ h.rc, List.Pairwise.filter _ h.rw_, List.Pairwise.filter _ h.rs, ?_, ?_, ?_, ?_⟩
  · intro m hm
    exact ⟨Con.mem_all.2 (Or.inl hm), (h.cells m (List.mem_filter.1 hm).1).2⟩
  · intro m hm
    exact ⟨Con.mem_all.2 (Or.inr (Or.inl hm)), (h.wipes m (List.mem_filter.1 hm).1).2⟩
  · intro m
    constructor
    · intro hm
      exact ⟨Con.mem_all.2 (Or.inr (Or.inr hm)), ((h.sibs m).1 (List.mem_filter.1 hm).1).2⟩
    · rintro ⟨h1, h2⟩
      have := Con.mem_filter.1 h1
      exact List.mem_filter.2 ⟨h.all_s this.1 h2, this.2⟩
  · intro m hm w hw
    exact h.free m (List.mem_filter.1 hm).1 w (List.mem_filter.1 hw).1
  · intro x hx y hy
    exact h.alone x (List.mem_filter.1 hx).1 y (List.mem_filter.1 hy).1
  · intro x hx wx
    have := Con.mem_filter.1 hx
    exact ⟨x, List.mem_filter.2 ⟨h.all_w this.1 wx, this.2⟩, within_self x⟩
  · intro x hx cx
    have := Con.mem_filter.1 hx
    exact Or.inl ⟨x, List.mem_filter.2 ⟨h.all_c this.1 cx, this.2⟩, rfl, by rw [muO.self]; omega⟩
theorem Reps.self {S : Mu → Prop} {c : Con} (h : Reps S c) : Reps (fun m => m ∈ c.all) c := by
  have := h.filter fun _ => true
  have ft : ∀ l : List Mu, l.filter (fun _ => true) = l := fun l => List.filter_eq_self.2 fun _ _ => rfl
  have e : c.filter (fun _ => true) = c := by cases c; unfold Con.filter; simp only [ft]
  rw [e] at this
  exact this

/-- All of it, each once. -/
theorem rises_nodup {α : Type} {c : α → α → Int} (h : Tot c) {l : List α} (hl : Rises c l) : l.Nodup := by
  unfold Rises at hl
  exact hl.imp fun {a b} hab e => by subst e; exact h.irrefl a hab
theorem keyC_nodup {l : List Mu} (hl : Rises keyC l) : l.Nodup := by
  unfold Rises at hl
  exact hl.imp fun {a b} hab e => by subst e; exact Tot.str.irrefl _ hab
theorem Reps.nodup {S : Mu → Prop} {c : Con} (h : Reps S c) : c.all.Nodup := by
  unfold Con.all
  refine List.nodup_append.2 ⟨keyC_nodup h.rc, List.nodup_append.2 ⟨rises_nodup muO h.rw_, rises_nodup sibO h.rs, ?_⟩, ?_⟩
  · rintro a ha b hb rfl
    exact (h.wipes a ha).2.1 ((h.sibs a).1 hb).2
  · rintro a ha b hb rfl
    rcases List.mem_append.1 hb with h1 | h1
    · exact (h.cells a ha).2.2 (h.wipes a h1).2.2
    · exact (h.cells a ha).2.1 ((h.sibs a).1 h1).2
theorem rises_of_sorted {α : Type} {c : α → α → Int} (h : Tot c) {l : List α} (hn : l.Nodup) (hl : l.Pairwise fun a b => c a b ≤ 0) : Rises c l := by
  unfold Rises
  refine (hl.and hn).imp fun {a b} hab => ?_
  have h0 : ¬ c a b = 0 := fun e => hab.2 ((h.zero a b).1 e)
  have h1 := hab.1
  omega
/-- The mutations that are left, rising. -/
def AllOf (c : Con) (l : List Mu) : Prop := Rises muC l ∧ ∀ m, m ∈ l ↔ m ∈ c.all
theorem AllOf.unique {c : Con} {l k : List Mu} (h : AllOf c l) (g : AllOf c k) : l = k := Rises.unique muO h.1 g.1 fun x => (h.2 x).trans (g.2 x).symm
theorem AllOf.of_perm {S : Mu → Prop} {c : Con} (h : Reps S c) {l : List Mu} (hp : l.Perm c.all) (hl : l.Pairwise fun a b => muC a b ≤ 0) : AllOf c l :=
  ⟨rises_of_sorted muO (hp.nodup_iff.2 h.nodup) hl, fun _ => hp.mem_iff⟩
theorem Reps.all_eq {S T : Mu → Prop} {c d : Con} (h : Reps S c) (g : Reps T d) {l : List Mu} (hc : AllOf c l) (hd : AllOf d l) : c = d := by
  have e : ∀ m, m ∈ c.all ↔ m ∈ d.all := fun m => (hc.2 m).symm.trans (hd.2 m)
  exact h.self.unique (g.self.same fun m => (e m).symm)
theorem AllOf.eq_iff {S T : Mu → Prop} {c d : Con} (h : Reps S c) (g : Reps T d) {l k : List Mu} (hc : AllOf c l) (hd : AllOf d k) : l = k ↔ c = d := by
  constructor
  · rintro rfl; exact h.all_eq g hc hd
  · rintro rfl; exact hc.unique hd
theorem AllOf.len {S : Mu → Prop} {c : Con} (h : Reps S c) {l : List Mu} (hc : AllOf c l) : l.length = c.all.length := by
  have : l.Perm c.all := (List.perm_ext_iff_of_nodup (rises_nodup muO hc.1) h.nodup).2 hc.2
  exact this.length_eq

/-! One element more, between two parts of a row. -/
theorem rises_take_drop {α : Type} {c : α → α → Int} {l : List α} (h : Rises c l) (i : Nat) (m : α) (h1 : ∀ x ∈ l.take i, c x m < 0) (h2 : ∀ x ∈ l.drop i, c m x < 0) : Rises c (l.take i ++ m :: l.drop i) := by
  unfold Rises at *
  rw [List.pairwise_append]
  have hs : (l.take i ++ l.drop i).Pairwise (fun a b => c a b < 0) := by rw [List.take_append_drop]; exact h
  obtain ⟨p1, p2, p3⟩ := List.pairwise_append.1 hs
  refine ⟨p1, List.pairwise_cons.2 ⟨h2, p2⟩, ?_⟩
  intro a ha b hb
  rcases List.mem_cons.1 hb with rfl | hb
  · exact h1 a ha
  · exact p3 a ha b hb
theorem mem_take_drop {α : Type} {l : List α} {i : Nat} {m x : α} : x ∈ l.take i ++ m :: l.drop i ↔ x ∈ l ∨ x = m := by
  rw [List.mem_append, List.mem_cons]
  have : x ∈ l ↔ x ∈ l.take i ∨ x ∈ l.drop i := by
    conv => lhs; rw [← List.take_append_drop i l, List.mem_append]
  rw [this]
  constructor
  · rintro (h | h | h)
    · exact Or.inl (Or.inl h)
    · exact Or.inr h
    · exact Or.inl (Or.inr h)
  · rintro ((h | h) | h)
    · exact Or.inl h
    · exact Or.inr (Or.inr h)
    · exact Or.inr (Or.inl h)
end Go.Proofs.YtgcfhlleaekgfaaGreatDoor.Mut
