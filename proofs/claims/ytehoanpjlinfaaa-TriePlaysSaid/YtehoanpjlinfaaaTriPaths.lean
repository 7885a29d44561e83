/- Tries in plain Lean: the ways of a trie, how many they are; the law's own count of beginnings. -/
import Derived.Test.YtehoanpjlinfaaaTriPut
namespace Go.Proofs.Ytehoanpjlinfaaa.Tri

/-- All ways down from a node. -/
def paths : Nat → Store → Nat → List Tx
  | 0, _, _ => [[]]
  | d + 1, σ, b => [] :: (match σ b with
    | none => []
    | some x => (x.runes.zip x.below).flatMap fun p => (paths d σ p.2).map (p.1 :: ·))
def cnt (d : Nat) (σ : Store) (b : Nat) : Nat := (paths d σ b).length
theorem paths_succ {d : Nat} {σ : Store} {b : Nat} {x : Node} (h : σ b = some x) : paths (d + 1) σ b = [] :: (x.runes.zip x.below).flatMap fun p => (paths d σ p.2).map (p.1 :: ·) := by simp [paths, h]

theorem mem_zip {x : Node} (h : x.Ok) {r : Int} {c : Nat} : (r, c) ∈ x.runes.zip x.below ↔ ∃ i : Nat, x.runes[i]? = some r ∧ x.below[i]? = some c := by
  constructor
  · intro hm
    obtain ⟨i, hi⟩ := List.getElem?_of_mem hm
    rw [List.getElem?_zip_eq_some] at hi
    exact ⟨i, hi.1, hi.2⟩
  · rintro ⟨i, h1, h2⟩
    exact List.mem_of_getElem? (i := i) (by rw [List.getElem?_zip_eq_some]; exact ⟨h1, h2⟩)

theorem Rep.paths : ∀ {d : Nat} {σ : Store} {b : Nat} {D : Dict}, Rep d σ b D → ∀ p, p ∈ Tri.paths d σ b ↔ p = [] ∨ ∃ k, D (p ++ k) ≠ none
  | 0, σ, b, D, h, p => by
    obtain ⟨x, h1, h2, h3, h4, h5⟩ := h
    simp only [Tri.paths, List.mem_singleton]
    constructor
    · intro e; exact Or.inl e
    · rintro (e | ⟨k, hk⟩)
      · exact e
      · cases p with
        | nil => rfl
        | cons r p => exact absurd (h5 r (p ++ k)) hk
  | d + 1, σ, b, D, h, p => by
    obtain ⟨x, h1, h2, h3, h4, h5⟩ := h
    rw [paths_succ h1, List.mem_cons, List.mem_flatMap]
    cases p with
    | nil => exact ⟨fun _ => Or.inl rfl, fun _ => Or.inl rfl⟩
    | cons r p =>
      constructor
      · rintro (e | ⟨⟨r', c⟩, hm, hp⟩)
        · cases e
        · obtain ⟨i, hi, hc⟩ := (mem_zip h2).1 hm
          obtain ⟨q, hq, e⟩ := List.mem_map.1 hp
          cases e
          rcases ((h5 i _ c hi hc).paths p).1 hq with rfl | ⟨k, hk⟩
          · obtain ⟨k, hk⟩ := (h4 _).1 (List.mem_of_getElem? hi)
            exact Or.inr ⟨k, hk⟩
          · exact Or.inr ⟨k, hk⟩
      · rintro (e | ⟨k, hk⟩)
        · cases e
        · obtain ⟨i, hi⟩ := List.getElem?_of_mem ((h4 r).2 ⟨p ++ k, hk⟩)
          obtain ⟨c, hc⟩ := h2.below_at hi
          exact Or.inr ⟨(r, c), (mem_zip h2).2 ⟨i, hi, hc⟩, List.mem_map.2 ⟨p, ((h5 i r c hi hc).paths p).2 (Or.inr ⟨k, hk⟩), rfl⟩⟩

theorem nodup_cons_map (r : Int) {l : List Tx} (h : l.Nodup) : (l.map (r :: ·)).Nodup := by
  induction l with
  | nil => simp
  | cons a l ih =>
    rw [List.nodup_cons] at h
    rw [List.map_cons, List.nodup_cons]
    refine ⟨fun hm => ?_, ih h.2⟩
    obtain ⟨b, hb, e⟩ := List.mem_map.1 hm
    cases e; exact h.1 hb
theorem nodup_ways {x : Node} {f : Nat → List Tx} : ∀ {l : List Int} {m : List Nat}, l.Pairwise (· < ·) → (∀ c ∈ m, (f c).Nodup) → ((l.zip m).flatMap fun p => (f p.2).map (p.1 :: ·)).Nodup
  | [], _, _, _ => by simp
  | _ :: _, [], _, _ => by simp
  | r :: l, c :: m, hr, hn => by
    rw [List.zip_cons_cons, List.flatMap_cons, List.nodup_append]
    have hp := List.pairwise_cons.1 hr
    refine ⟨?_, nodup_ways (x := x) hp.2 fun c hc => hn c (by simp [hc]), fun a ha b hb => ?_⟩
    · exact nodup_cons_map r (hn c (by simp))
    · rintro rfl
      obtain ⟨q, _, rfl⟩ := List.mem_map.1 ha
      obtain ⟨⟨r', c'⟩, hm, hb⟩ := List.mem_flatMap.1 hb
      obtain ⟨q', _, e⟩ := List.mem_map.1 hb
      cases e
      have := hp.1 r (List.of_mem_zip hm).1
      omega
theorem Rep.paths_nodup : ∀ {d : Nat} {σ : Store} {b : Nat} {D : Dict}, Rep d σ b D → (Tri.paths d σ b).Nodup
  | 0, σ, b, D, h => by simp [Tri.paths]
  | d + 1, σ, b, D, h => by
    obtain ⟨x, h1, h2, h3, h4, h5⟩ := h
    rw [paths_succ h1, List.nodup_cons]
    refine ⟨fun hm => ?_, nodup_ways (x := x) h2.rise fun c hc => ?_⟩
    · obtain ⟨p, _, hp⟩ := List.mem_flatMap.1 hm
      obtain ⟨q, _, e⟩ := List.mem_map.1 hp
      cases e
    · obtain ⟨i, hi⟩ := List.getElem?_of_mem hc
      obtain ⟨r, hr⟩ := h2.rune_at hi
      exact (h5 i r c hr hi).paths_nodup

/-- The law's count: a beginning counts where it is met first. -/
def begins (s a : Tx) : Bool := decide (a.length ≤ s.length) && decide (s.take a.length = a)
theorem begins_iff (s a : Tx) : begins s a = true ↔ ∃ k, s = a ++ k := by
  unfold begins
  rw [Bool.and_eq_true, decide_eq_true_eq, decide_eq_true_eq]
  constructor
  · rintro ⟨_, h⟩
    exact ⟨s.drop a.length, by conv => lhs; rw [← List.take_append_drop a.length s, h]⟩
  · rintro ⟨k, rfl⟩
    exact ⟨by simp, by simp⟩
/-- Is the beginning of k runes of the text s new behind the texts l? -/
def fresh (l : List Tx) (s : Tx) (k : Nat) : Bool := l.all fun t => !begins t (s.take k)
def news (l : List Tx) (s : Tx) : List Tx := ((List.range s.length).filter fun k => fresh l s (k + 1)).map fun k => s.take (k + 1)
/-- All beginnings that are new, text by text. -/
def firsts : List Tx → List Tx → List Tx
  | _, [] => []
  | l, s :: r => news l s ++ firsts (l ++ [s]) r
def nodesF (l : List Tx) : Nat := 1 + (firsts [] l).length

theorem mem_news {l : List Tx} {s p : Tx} : p ∈ news l s ↔ p ≠ [] ∧ (∃ k, s = p ++ k) ∧ ∀ t ∈ l, ¬ ∃ k, t = p ++ k := by
  unfold news
  rw [List.mem_map]
  constructor
  · rintro ⟨k, hk, rfl⟩
    rw [List.mem_filter, List.mem_range] at hk
    refine ⟨fun e => ?_, ⟨s.drop (k + 1), by rw [List.take_append_drop]⟩, fun t ht h => ?_⟩
    · have h3 := congrArg List.length e
      have h4 := hk.1
      rw [List.length_take] at h3
      simp at h3
      rw [h3] at h4
      simp at h4
    · have h2 := hk.2
      unfold fresh at h2
      rw [List.all_eq_true] at h2
      have := h2 t ht
      rw [(begins_iff t _).2 h] at this
      cases this
  · rintro ⟨h0, ⟨k, rfl⟩, h2⟩
    have hl : 0 < p.length := by cases p with
      | nil => exact absurd rfl h0
      | cons _ _ => simp
    have e1 : (p ++ k).take (p.length - 1 + 1) = p := by rw [show p.length - 1 + 1 = p.length by omega]; simp
    refine ⟨p.length - 1, ?_, e1⟩
    rw [List.mem_filter, List.mem_range]
    refine ⟨by simp; omega, ?_⟩
    unfold fresh
    rw [List.all_eq_true]
    intro t ht
    rw [e1]
    cases hb : begins t p with
    | false => rfl
    | true => exact absurd ((begins_iff t p).1 hb) (h2 t ht)
theorem nodup_news (l : List Tx) (s : Tx) : (news l s).Nodup := by
  unfold news
  rw [List.nodup_iff_pairwise_ne, List.pairwise_map]
  have h : ((List.range s.length).filter fun k => fresh l s (k + 1)).Pairwise (· < ·) := List.pairwise_lt_range.sublist List.filter_sublist
  have hm : ∀ k ∈ ((List.range s.length).filter fun k => fresh l s (k + 1)), k < s.length := fun k hk => List.mem_range.1 (List.mem_filter.1 hk).1
  generalize ((List.range s.length).filter fun k => fresh l s (k + 1)) = q at *
  induction h with
  | nil => exact List.Pairwise.nil
  | cons hh _ ih =>
    refine List.Pairwise.cons (fun b hb e => ?_) (ih fun k hk => hm k (by simp [hk]))
    have h1 := hh b hb
    have h2 := hm b (by simp [hb])
    have := congrArg List.length e
    rw [List.length_take, List.length_take] at this
    omega
theorem mem_firsts : ∀ {r l : List Tx} {p : Tx}, p ∈ firsts l r ↔ p ≠ [] ∧ (∃ s ∈ r, ∃ k, s = p ++ k) ∧ ∀ t ∈ l, ¬ ∃ k, t = p ++ k
  | [], l, p => by simp [firsts]
  | s :: r, l, p => by
    rw [firsts, List.mem_append, mem_news, mem_firsts]
    constructor
    · rintro (⟨h0, h1, h2⟩ | ⟨h0, ⟨t, ht, h1⟩, h2⟩)
      · exact ⟨h0, ⟨s, by simp, h1⟩, h2⟩
      · exact ⟨h0, ⟨t, by simp [ht], h1⟩, fun u hu => h2 u (by simp [hu])⟩
    · rintro ⟨h0, ⟨t, ht, h1⟩, h2⟩
      by_cases hs : ∃ k, s = p ++ k
      · exact Or.inl ⟨h0, hs, h2⟩
      · rcases List.mem_cons.1 ht with rfl | ht
        · exact absurd h1 hs
        · refine Or.inr ⟨h0, ⟨t, ht, h1⟩, fun u hu => ?_⟩
          rcases List.mem_append.1 hu with hu | hu
          · exact h2 u hu
          · have : u = s := by simpa using hu
            subst this; exact hs
theorem nodup_firsts : ∀ (r l : List Tx), (firsts l r).Nodup
  | [], _ => by simp [firsts]
  | s :: r, l => by
    rw [firsts, List.nodup_append]
    refine ⟨nodup_news l s, nodup_firsts r _, fun a ha b hb => ?_⟩
    rintro rfl
    exact (mem_firsts.1 hb).2.2 s (by simp) (mem_news.1 ha).2.1

/-- How many nodes there are. -/
theorem Rep.cnt {d : Nat} {σ : Store} {b : Nat} {D : Dict} (h : Rep d σ b D) (l : List Tx) (hl : ∀ k, D k ≠ none ↔ k ∈ l) : Tri.cnt d σ b = nodesF l := by
  unfold Tri.cnt nodesF
  have e : (Tri.paths d σ b).Perm ([] :: firsts [] l) := by
    rw [List.perm_ext_iff_of_nodup h.paths_nodup (List.nodup_cons.2 ⟨fun hm => (mem_firsts.1 hm).1 rfl, nodup_firsts l []⟩)]
    intro p
    rw [h.paths, List.mem_cons, mem_firsts]
    constructor
    · rintro (e | ⟨k, hk⟩)
      · exact Or.inl e
      · by_cases h0 : p = []
        · exact Or.inl h0
        · exact Or.inr ⟨h0, ⟨p ++ k, (hl _).1 hk, k, rfl⟩, by simp⟩
    · rintro (e | ⟨_, ⟨s, hs, k, rfl⟩, _⟩)
      · exact Or.inl e
      · exact Or.inr ⟨k, (hl _).2 hs⟩
  rw [e.length_eq, List.length_cons]
  omega
end Go.Proofs.Ytehoanpjlinfaaa.Tri
