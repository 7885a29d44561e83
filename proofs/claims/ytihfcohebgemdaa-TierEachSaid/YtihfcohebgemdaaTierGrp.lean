/- Layer 18 (tier), in plain Lean: groups of places; which is picked. No Go in sight. -/
import Derived.Test.YtihfcohebgemdaaTierPlain
set_option linter.unusedSimpArgs false
set_option linter.unusedVariables false
namespace Go.Proofs.Ytihfcohebgemdaa.Tier

theorem R_ext {l : List Int} : ∀ {a b : List Int}, a.Pairwise (R l) → b.Pairwise (R l) → (∀ x, x ∈ a ↔ x ∈ b) → a = b
  | [], [], _, _, _ => rfl
  | [], y :: b, _, _, h => absurd ((h y).2 (by simp)) (by simp)
  | x :: a, [], _, _, h => absurd ((h x).1 (by simp)) (by simp)
  | x :: a, y :: b, ha, hb, h => by
    have pa := List.pairwise_cons.1 ha
    have pb := List.pairwise_cons.1 hb
    have irr : ∀ z, ¬ R l z z := fun z hz => R_asymm hz hz
    have hxy : x = y := by
      have h1 := (h x).1 (by simp)
      have h2 := (h y).2 (by simp)
      rcases List.mem_cons.1 h1 with e | e
      · exact e
      · rcases List.mem_cons.1 h2 with f | f
        · exact f.symm
        · exact (R_asymm (pa.1 y f) (pb.1 x e)).elim
    subst hxy
    rw [R_ext pa.2 pb.2 fun z => ?_]
    constructor
    · intro hz
      rcases List.mem_cons.1 ((h z).1 (by simp [hz])) with e | e
      · subst e; exact (irr _ (pa.1 z hz)).elim
      · exact e
    · intro hz
      rcases List.mem_cons.1 ((h z).2 (by simp [hz])) with e | e
      · subst e; exact (irr _ (pb.1 z hz)).elim
      · exact e
/-- The places, as they stand. -/
def insR (l : List Int) (x : Int) : List Int → List Int
  | [] => [x]
  | y :: t => if sz l x < sz l y ∨ sz l x = sz l y ∧ x < y then x :: y :: t else y :: insR l x t
def places (n : Nat) : List Int := (List.range n).map fun k : Nat => (k : Int)
def sortF (l : List Int) : List Int := (places l.length).foldr (insR l) []
theorem mem_insR {l : List Int} {x y : Int} : ∀ {t : List Int}, y ∈ insR l x t ↔ y = x ∨ y ∈ t
  | [] => by simp [insR]
  | z :: t => by
    unfold insR
    split
    · simp
    · simp only [List.mem_cons, mem_insR (t := t)]
      constructor
      · rintro (h | h | h)
        · exact Or.inr (Or.inl h)
        · exact Or.inl h
        · exact Or.inr (Or.inr h)
      · rintro (h | h | h)
        · exact Or.inr (Or.inl h)
        · exact Or.inl h
        · exact Or.inr (Or.inr h)
theorem insR_sorted {l : List Int} {x : Int} : ∀ {t : List Int}, t.Pairwise (R l) → ¬ x ∈ t → (insR l x t).Pairwise (R l)
  | [], _, _ => List.pairwise_singleton _ _
  | y :: t, h, hn => by
    have hp := List.pairwise_cons.1 h
    unfold insR
    split
    · rename_i c
      refine List.pairwise_cons.2 ⟨fun z hz => ?_, h⟩
      rcases List.mem_cons.1 hz with e | e
      · subst e; exact c
      · exact R_trans c (hp.1 z e)
    · rename_i c
      refine List.pairwise_cons.2 ⟨fun z hz => ?_, insR_sorted hp.2 (fun e => hn (List.mem_cons_of_mem _ e))⟩
      rcases mem_insR.1 hz with e | e
      · subst e
        rcases R_tri l z y with h1 | h1 | h1
        · exact (c h1).elim
        · exact (hn (by rw [h1]; simp)).elim
        · exact h1
      · exact hp.1 z e
theorem foldr_sorted {l : List Int} : ∀ (p : List Int), p.Nodup → (p.foldr (insR l) []).Pairwise (R l) ∧ ∀ x, x ∈ p.foldr (insR l) [] ↔ x ∈ p
  | [], _ => ⟨List.Pairwise.nil, fun x => by simp⟩
  | y :: p, h => by
    have hc := List.nodup_cons.1 h
    obtain ⟨i1, i2⟩ := foldr_sorted p hc.2
    exact ⟨insR_sorted i1 (fun e => hc.1 ((i2 y).1 e)), fun x => by rw [List.foldr_cons, mem_insR, i2 x, List.mem_cons]⟩
theorem mem_places {n : Nat} {x : Int} : x ∈ places n ↔ 0 ≤ x ∧ x < n := by
  unfold places
  rw [List.mem_map]
  constructor
  · rintro ⟨k, hk, rfl⟩
    have := List.mem_range.1 hk
    omega
  · rintro ⟨h1, h2⟩
    exact ⟨x.toNat, List.mem_range.2 (by omega), by omega⟩
theorem places_lt (n : Nat) : (places n).Pairwise fun a b => a < b := by
  unfold places
  rw [List.pairwise_map]
  exact List.pairwise_lt_range.imp fun h => by omega
theorem places_nodup (n : Nat) : (places n).Nodup := (places_lt n).imp fun {a b} h => by omega
theorem sortF_sorted (l : List Int) : (sortF l).Pairwise (R l) ∧ ∀ x, x ∈ sortF l ↔ x ∈ places l.length := foldr_sorted _ (places_nodup _)

/-- One place more. -/
def near (l : List Int) (g : List Int) (i : Int) : Bool := decide (sz l i - max (sz l (g.headD 0)) 1 ≤ max (sz l (g.headD 0)) 1)
def stepG (l : List Int) (gs : List (List Int)) (i : Int) : List (List Int) :=
  match gs.getLast? with
  | some g => if near l g i = true then gs.dropLast ++ [g ++ [i]] else gs ++ [[i]]
  | none => [[i]]
def groupF (l : List Int) (p : List Int) : List (List Int) := p.foldl (stepG l) []
theorem groupF_snoc (l p : List Int) (i : Int) : groupF l (p ++ [i]) = stepG l (groupF l p) i := by unfold groupF; rw [List.foldl_append]; rfl
theorem sz_nonneg (l : List Int) (i : Int) : 0 ≤ sz l i := by unfold sz; omega
structure GI (l p : List Int) (gs : List (List Int)) : Prop where
  flat : gs.flatten = p
  ne : ∀ g ∈ gs, g ≠ []
  close : ∀ g ∈ gs, ∀ y ∈ g, near l g y = true
theorem last_split {gs : List (List Int)} {g : List Int} (h : gs.getLast? = some g) : gs = gs.dropLast ++ [g] := by
  obtain ⟨ys, rfl⟩ := List.getLast?_eq_some_iff.1 h
  rw [List.dropLast_concat]
theorem near_self (l : List Int) (i : Int) : near l [i] i = true := by
  unfold near
  refine decide_eq_true ?_
  show sz l i - max (sz l i) 1 ≤ max (sz l i) 1
  have := sz_nonneg l i
  omega
theorem GI.step {l p : List Int} {gs : List (List Int)} (h : GI l p gs) (i : Int) : GI l (p ++ [i]) (stepG l gs i) := by
  unfold stepG
  cases hl : gs.getLast? with
  | none =>
    have e : gs = [] := List.getLast?_eq_none_iff.1 hl
    subst e
    have hp : p = [] := h.flat.symm
    subst hp
    exact ⟨rfl, fun g hg => by simp at hg; subst hg; simp, fun g hg y hy => by simp at hg; subst hg; simp at hy; subst hy; exact near_self l y⟩
  | some g =>
    have hs := last_split hl
    have hg : g ∈ gs := by rw [hs]; simp
    have hgn := h.ne g hg
    simp only []
    split
    · rename_i c
      have hh : (g ++ [i]).headD 0 = g.headD 0 := by
        cases g with
        | nil => exact absurd rfl hgn
        | cons a g => rfl
      refine ⟨?_, fun g' hg' => ?_, fun g' hg' y hy => ?_⟩
      · have := h.flat
        rw [hs] at this
        rw [List.flatten_append] at this ⊢
        simp only [List.flatten_cons, List.flatten_nil, List.append_nil] at this ⊢
        rw [← List.append_assoc, this]
      · rcases List.mem_append.1 hg' with e | e
        · exact h.ne g' ((List.dropLast_sublist gs).subset e)
        · rw [List.mem_singleton.1 e]; simp
      · rcases List.mem_append.1 hg' with e | e
        · exact h.close g' ((List.dropLast_sublist gs).subset e) y hy
        · rw [List.mem_singleton.1 e] at hy ⊢
          unfold near
          rw [hh]
          rcases List.mem_append.1 hy with f | f
          · exact h.close g hg y f
          · rw [List.mem_singleton.1 f]; exact c
    · refine ⟨?_, fun g' hg' => ?_, fun g' hg' y hy => ?_⟩
      · rw [List.flatten_append, h.flat]; rfl
      · rcases List.mem_append.1 hg' with e | e
        · exact h.ne g' e
        · rw [List.mem_singleton.1 e]; simp
      · rcases List.mem_append.1 hg' with e | e
        · exact h.close g' e y hy
        · rw [List.mem_singleton.1 e] at hy ⊢
          rw [List.mem_singleton.1 hy]; exact near_self l i
theorem groupF_inv (l : List Int) (p : List Int) : GI l p (groupF l p) := by
  have h : ∀ (q p : List Int) (gs : List (List Int)), GI l p gs → GI l (p ++ q) (q.foldl (stepG l) gs) := by
    intro q
    induction q with
    | nil => intro p gs h; rw [List.append_nil]; exact h
    | cons i q ih =>
      intro p gs h
      have := ih (p ++ [i]) _ (h.step i)
      rw [List.append_assoc] at this
      exact this
  have := h p [] [] ⟨rfl, by simp, by simp⟩
  rw [List.nil_append] at this
  exact this
def groups (l : List Int) : List (List Int) := groupF l (sortF l)
/-- In a group none is more than twice as great as another one (at least 1). -/
theorem group_like {l : List Int} {g : List Int} (hg : g ∈ groups l) {y z : Int} (hy : y ∈ g) (hz : z ∈ g) : sz l y ≤ 2 * max (sz l z) 1 := by
  have hi := groupF_inv l (sortF l)
  have hc := hi.close g hg y hy
  unfold near at hc
  simp only [decide_eq_true_eq] at hc
  have hp := (sortF_sorted l).1
  rw [← hi.flat] at hp
  have hgp := (List.pairwise_flatten.1 hp).1 g hg
  have hle : sz l (g.headD 0) ≤ sz l z := by
    cases g with
    | nil => simp at hz
    | cons a g =>
      show sz l a ≤ sz l z
      rcases List.mem_cons.1 hz with e | e
      · rw [e]; exact Int.le_refl _
      · have := (List.pairwise_cons.1 hgp).1 z e
        unfold R at this
        omega
  omega
theorem group_mem {l : List Int} {g : List Int} (hg : g ∈ groups l) {y : Int} (hy : y ∈ g) : 0 ≤ y ∧ y < l.length := by
  have hi := groupF_inv l (sortF l)
  have h1 : y ∈ (groupF l (sortF l)).flatten := List.mem_flatten.2 ⟨g, hg, hy⟩
  rw [hi.flat] at h1
  exact mem_places.1 (((sortF_sorted l).2 y).1 h1)
theorem group_nodup {l : List Int} {g : List Int} (hg : g ∈ groups l) : g.Nodup := by
  have hi := groupF_inv l (sortF l)
  have hp := (sortF_sorted l).1
  rw [← hi.flat] at hp
  exact ((List.pairwise_flatten.1 hp).1 g hg).imp fun {a b} h e => by subst e; exact R_asymm h h
def leB : Int → Int → Bool := fun x y => decide (x ≤ y)
/-- What is picked. -/
def pickOf : List (List Int) → List Int
  | [] => []
  | g :: gs => if 4 ≤ g.length then g.mergeSort leB else pickOf gs
def pickF (l : List Int) : List Int := pickOf (groups l)
theorem pickOf_cases : ∀ (gs : List (List Int)), pickOf gs = [] ∨ ∃ g ∈ gs, 4 ≤ g.length ∧ pickOf gs = g.mergeSort leB
  | [] => Or.inl rfl
  | g :: gs => by
    unfold pickOf
    split
    · rename_i h; exact Or.inr ⟨g, by simp, h, rfl⟩
    · rcases pickOf_cases gs with h | ⟨g', h1, h2, h3⟩
      · exact Or.inl h
      · exact Or.inr ⟨g', by simp [h1], h2, h3⟩
structure PickI (l p : List Int) : Prop where
  some : p = [] ∨ 4 ≤ p.length
  mem : ∀ y ∈ p, 0 ≤ y ∧ y < l.length
  like : ∀ y ∈ p, ∀ z ∈ p, sz l y ≤ 2 * max (sz l z) 1
  nodup : p.Nodup
theorem pickF_inv (l : List Int) : PickI l (pickF l) := by
  unfold pickF
  rcases pickOf_cases (groups l) with h | ⟨g, h1, h2, h3⟩
  · rw [h]; exact ⟨Or.inl rfl, by simp, by simp, List.nodup_nil⟩
  · rw [h3]
    have hp := List.mergeSort_perm g leB
    exact ⟨Or.inr (by rw [hp.length_eq]; exact h2), fun y hy => group_mem h1 (hp.mem_iff.1 hy), fun y hy z hz => group_like h1 (hp.mem_iff.1 hy) (hp.mem_iff.1 hz), hp.nodup_iff.2 (group_nodup h1)⟩
/-- All places, each once. -/
theorem all_sorted (l : List Int) : (groups l).flatten.mergeSort leB = places l.length := by
  have hi := groupF_inv l (sortF l)
  unfold groups
  rw [hi.flat]
  have hperm : (sortF l).Perm (places l.length) := by
    have hn : (sortF l).Nodup := (sortF_sorted l).1.imp fun {a b} h e => by subst e; exact R_asymm h h
    exact (List.perm_ext_iff_of_nodup hn (places_nodup _)).2 (sortF_sorted l).2
  have tr : ∀ a b c : Int, leB a b = true → leB b c = true → leB a c = true := fun a b c h1 h2 => by unfold leB at *; simp only [decide_eq_true_eq] at *; omega
  have tot : ∀ a b : Int, (leB a b || leB b a) = true := fun a b => by unfold leB; simp only [Bool.or_eq_true, decide_eq_true_eq]; omega
  exact List.Perm.eq_of_pairwise (le := fun a b => leB a b = true) (fun a b _ _ h1 h2 => by unfold leB at *; simp only [decide_eq_true_eq] at *; omega) (List.pairwise_mergeSort tr tot _) ((places_lt _).imp fun h => by unfold leB; exact decide_eq_true (by omega)) ((List.mergeSort_perm _ _).trans hperm)
/-- What is left of a row without some places. -/
def restG (p : List Int) : Nat → List Int → List Int
  | _, [] => []
  | i, x :: t => if p.contains (i : Int) then restG p (i + 1) t else x :: restG p (i + 1) t
def restF (l p : List Int) : List Int := restG p 0 l
theorem restG_len (p : List Int) : ∀ (l : List Int) (i : Nat), (restG p i l).length ≤ l.length
  | [], _ => Nat.le_refl _
  | x :: t, i => by
    have := restG_len p t (i + 1)
    unfold restG
    split <;> simp <;> omega
theorem restG_one (p : List Int) : ∀ (l : List Int) (i : Nat) (a : Int), a ∈ p → (i : Int) ≤ a → a < i + l.length → (restG p i l).length + 1 ≤ l.length
  | [], i, a, _, h1, h2 => by simp at h2; omega
  | x :: t, i, a, ha, h1, h2 => by
    unfold restG
    by_cases c : a = i
    · have : p.contains (i : Int) = true := by rw [← c]; simpa using ha
      rw [if_pos this]
      have := restG_len p t (i + 1)
      simp; omega
    · have ih := restG_one p t (i + 1) a ha (by omega) (by simp at h2; omega)
      split
      · have := restG_len p t (i + 1); simp; omega
      · simp; omega
theorem restG_two (p : List Int) : ∀ (l : List Int) (i : Nat) (a b : Int), a ∈ p → b ∈ p → (i : Int) ≤ a → a < b → b < i + l.length → (restG p i l).length + 2 ≤ l.length
  | [], i, a, b, _, _, h1, h2, h3 => by simp at h3; omega
  | x :: t, i, a, b, ha, hb, h1, h2, h3 => by
    unfold restG
    by_cases c : a = i
    · have : p.contains (i : Int) = true := by rw [← c]; simpa using ha
      rw [if_pos this]
      have := restG_one p t (i + 1) b hb (by omega) (by simp at h3; omega)
      simp; omega
    · have ih := restG_two p t (i + 1) a b ha hb (by omega) h2 (by simp at h3; omega)
      split
      · simp; omega
      · simp; omega
theorem rest_less {l p : List Int} (h : PickI l p) (hp : p ≠ []) : (restF l p).length + 2 ≤ l.length := by
  have h4 : 4 ≤ p.length := h.some.resolve_left hp
  match p, h4, h with
  | a :: b :: t, _, h =>
    have hne : a ≠ b := fun e => by
      have := List.nodup_cons.1 h.nodup
      exact this.1 (by rw [e]; simp)
    have ma := h.mem a (by simp)
    have mb := h.mem b (by simp)
    rcases Int.lt_or_gt_of_ne hne with q | q
    · exact restG_two _ l 0 a b (by simp) (by simp) (by omega) q (by omega)
    · exact restG_two _ l 0 b a (by simp) (by simp) (by omega) q (by omega)
theorem restG_mem (p : List Int) : ∀ (l : List Int) (i : Nat) (x : Int), x ∈ restG p i l → x ∈ l
  | [], _, _, h => h
  | y :: t, i, x, h => by
    unfold restG at h
    split at h
    · exact List.mem_cons_of_mem _ (restG_mem p t (i + 1) x h)
    · rcases List.mem_cons.1 h with e | e
      · rw [e]; simp
      · exact List.mem_cons_of_mem _ (restG_mem p t (i + 1) x e)
end Go.Proofs.Ytihfcohebgemdaa.Tier
