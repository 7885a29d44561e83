/- Tries in plain Lean: how texts stand; rising rows of texts and their numbers. -/
import Derived.Test.YtehoanpjlinfaaaTriPaths
namespace Go.Proofs.Ytehoanpjlinfaaa.Tri

/-- How two rows of runes stand. -/
def cmpT : Tx → Tx → Int
  | [], [] => 0
  | [], _ :: _ => -1
  | _ :: _, [] => 1
  | a :: s, b :: t => if a < b then -1 else if b < a then 1 else cmpT s t
theorem cmpT_cases (a b : Tx) : cmpT a b = -1 ∨ cmpT a b = 0 ∨ cmpT a b = 1 := by
  induction a generalizing b with
  | nil => cases b <;> simp [cmpT]
  | cons x a ih =>
    cases b with
    | nil => simp [cmpT]
    | cons y b =>
      simp only [cmpT]
      split
      · exact Or.inl rfl
      · split
        · exact Or.inr (Or.inr rfl)
        · exact ih b
theorem cmpT_zero {a b : Tx} : cmpT a b = 0 ↔ a = b := by
  induction a generalizing b with
  | nil => cases b <;> simp [cmpT]
  | cons x a ih =>
    cases b with
    | nil => simp [cmpT]
    | cons y b =>
      simp only [cmpT]
      by_cases h1 : x < y
      · rw [if_pos h1]; constructor
        · intro h; omega
        · intro h; cases h; omega
      · by_cases h2 : y < x
        · rw [if_neg h1, if_pos h2]; constructor
          · intro h; omega
          · intro h; cases h; omega
        · rw [if_neg h1, if_neg h2, ih]
          obtain rfl : x = y := by omega
          simp
theorem cmpT_self (a : Tx) : cmpT a a = 0 := cmpT_zero.2 rfl
theorem cmpT_swap (a b : Tx) : cmpT b a = - cmpT a b := by
  induction a generalizing b with
  | nil => cases b <;> simp [cmpT]
  | cons x a ih =>
    cases b with
    | nil => simp [cmpT]
    | cons y b =>
      simp only [cmpT]
      by_cases h1 : x < y
      · rw [if_pos h1, if_neg (by omega), if_pos h1]; rfl
      · by_cases h2 : y < x
        · rw [if_pos h2, if_neg h1, if_pos h2]
        · rw [if_neg h1, if_neg h2, if_neg h2, if_neg h1, ih]
def ltT (a b : Tx) : Prop := cmpT a b = -1
theorem ltT_trans {a b c : Tx} (h : ltT a b) (k : ltT b c) : ltT a c := by
  unfold ltT at *
  induction a generalizing b c with
  | nil => cases b with
    | nil => simp [cmpT] at h
    | cons y b => cases c with
      | nil => simp [cmpT] at k
      | cons z c => rfl
  | cons x a ih => cases b with
    | nil => simp [cmpT] at h
    | cons y b => cases c with
      | nil => simp [cmpT] at k
      | cons z c =>
        simp only [cmpT] at h k ⊢
        by_cases h1 : x < y
        · by_cases k1 : y < z
          · rw [if_pos (by omega)]
          · rw [if_neg k1] at k
            by_cases k2 : z < y
            · rw [if_pos k2] at k; omega
            · rw [if_pos (by omega)]
        · rw [if_neg h1] at h
          by_cases h2 : y < x
          · rw [if_pos h2] at h; omega
          · rw [if_neg h2] at h
            obtain rfl : x = y := by omega
            by_cases k1 : x < z
            · rw [if_pos k1]
            · rw [if_neg k1] at k ⊢
              by_cases k2 : z < x
              · rw [if_pos k2] at k; omega
              · rw [if_neg k2] at k ⊢
                exact ih h k
theorem ltT_irrefl (a : Tx) : ¬ ltT a a := by unfold ltT; rw [cmpT_self]; omega
theorem ltT_tri (a b : Tx) : ltT a b ∨ a = b ∨ ltT b a := by
  rcases cmpT_cases a b with h | h | h
  · exact Or.inl h
  · exact Or.inr (Or.inl (cmpT_zero.1 h))
  · refine Or.inr (Or.inr ?_); unfold ltT; rw [cmpT_swap, h]

abbrev Its := List (Tx × Int)
def Rising (l : Its) : Prop := l.Pairwise fun a b => ltT a.1 b.1
theorem rising_unique : ∀ {l m : Its}, Rising l → Rising m → (∀ p, p ∈ l ↔ p ∈ m) → l = m
  | [], [], _, _, _ => rfl
  | [], q :: m, _, _, h => by have := (h q).2 (by simp); cases this
  | p :: l, [], _, _, h => by have := (h p).1 (by simp); cases this
  | p :: l, q :: m, hl, hm, h => by
    have hl' := List.pairwise_cons.1 hl
    have hm' := List.pairwise_cons.1 hm
    have e : p = q := by
      rcases List.mem_cons.1 ((h p).1 (by simp)) with e | e
      · exact e
      · rcases List.mem_cons.1 ((h q).2 (by simp)) with e' | e'
        · exact e'.symm
        · exact absurd (ltT_trans (hl'.1 q e') (hm'.1 p e)) (ltT_irrefl _)
    subst e
    congr 1
    refine rising_unique hl'.2 hm'.2 fun r => ⟨fun hr => ?_, fun hr => ?_⟩
    · rcases List.mem_cons.1 ((h r).1 (by simp [hr])) with e | e
      · subst e; exact absurd (hl'.1 r hr) (ltT_irrefl _)
      · exact e
    · rcases List.mem_cons.1 ((h r).2 (by simp [hr])) with e | e
      · subst e; exact absurd (hm'.1 r hr) (ltT_irrefl _)
      · exact e

/-- The row has just the texts of D. -/
structure RowIs (D : Dict) (l : Its) : Prop where
  rise : Rising l
  iff : ∀ k n, D k = some n ↔ (k, n) ∈ l

/-- Where a text stands, or belongs. -/
def findL : Its → Tx → Nat
  | [], _ => 0
  | p :: l, s => if cmpT s p.1 ≤ 0 then 0 else findL l s + 1
def hasL (l : Its) (s : Tx) : Bool := match l[findL l s]? with
  | some p => decide (p.1 = s)
  | none => false
theorem findL_le (l : Its) (s : Tx) : findL l s ≤ l.length := by
  induction l with
  | nil => simp [findL]
  | cons p l ih => unfold findL; split <;> simp <;> omega
theorem findL_split {l : Its} (h : Rising l) (s : Tx) : (∀ p ∈ l.take (findL l s), ltT p.1 s) ∧ ∀ p ∈ l.drop (findL l s), p.1 = s ∨ ltT s p.1 := by
  induction l with
  | nil => simp [findL]
  | cons q l ih =>
    have h' := List.pairwise_cons.1 h
    unfold findL
    by_cases hc : cmpT s q.1 ≤ 0
    · rw [if_pos hc]
      refine ⟨by simp, fun p hp => ?_⟩
      have hq : q.1 = s ∨ ltT s q.1 := by
        rcases cmpT_cases s q.1 with e | e | e
        · exact Or.inr e
        · exact Or.inl (cmpT_zero.1 e).symm
        · omega
      rcases List.mem_cons.1 (by simpa using hp : p ∈ q :: l) with rfl | hp
      · exact hq
      · rcases hq with e | e
        · exact Or.inr (e ▸ h'.1 p hp)
        · exact Or.inr (ltT_trans e (h'.1 p hp))
    · rw [if_neg hc]
      have hq : ltT q.1 s := by
        unfold ltT; rw [cmpT_swap]
        rcases cmpT_cases s q.1 with e | e | e <;> omega
      obtain ⟨h1, h2⟩ := ih h'.2
      refine ⟨fun p hp => ?_, fun p hp => h2 p (by simpa using hp)⟩
      rw [List.take_succ_cons] at hp
      rcases List.mem_cons.1 hp with rfl | hp
      · exact hq
      · exact h1 p hp
theorem hasL_iff {D : Dict} {l : Its} (h : RowIs D l) (s : Tx) : hasL l s = (D s).isSome := by
  obtain ⟨h1, h2⟩ := findL_split h.rise s
  have hs : ∀ n, (s, n) ∈ l → ∃ p, l[findL l s]? = some p ∧ p.1 = s := fun n hm => by
    rw [← List.take_append_drop (findL l s) l, List.mem_append] at hm
    rcases hm with hm | hm
    · exact absurd (h1 _ hm) (ltT_irrefl _)
    · cases hd : l.drop (findL l s) with
      | nil => rw [hd] at hm; cases hm
      | cons q r =>
        have hq : l[findL l s]? = some q := by
          have : (l.drop (findL l s))[0]? = some q := by rw [hd]; rfl
          rwa [List.getElem?_drop, Nat.add_zero] at this
        refine ⟨q, hq, ?_⟩
        rw [hd] at hm
        rcases List.mem_cons.1 hm with e | e
        · rw [← e]
        · have hr : Rising (q :: r) := by rw [← hd]; exact h.rise.sublist (List.drop_sublist _ _)
          have h3 := (List.pairwise_cons.1 hr).1 _ e
          rcases h2 q (by rw [hd]; simp) with h4 | h4
          · exact h4
          · exact absurd (ltT_trans h4 h3) (ltT_irrefl _)
  cases hq : D s with
  | none =>
    unfold hasL
    cases hf : l[findL l s]? with
    | none => rfl
    | some p =>
      by_cases e : p.1 = s
      · have := (h.iff s p.2).2 (by rw [← e]; exact List.mem_of_getElem? hf)
        rw [hq] at this; cases this
      · simp [e]
  | some n =>
    obtain ⟨p, hp, e⟩ := hs n ((h.iff s n).1 hq)
    unfold hasL
    rw [hp]
    simp [e]

theorem row_ins_new {D : Dict} {l : Its} (h : RowIs D l) {s : Tx} (hn : D s = none) (n : Int) : RowIs (ins D s n) (l.take (findL l s) ++ (s, n) :: l.drop (findL l s)) := by
  obtain ⟨h1, h2⟩ := findL_split h.rise s
  have h3 : ∀ p ∈ l.drop (findL l s), ltT s p.1 := fun p hp => by
    rcases h2 p hp with e | e
    · have := (h.iff s p.2).2 (by rw [← e]; exact List.mem_of_mem_drop hp)
      rw [hn] at this; cases this
    · exact e
  have hr : Rising (l.take (findL l s) ++ l.drop (findL l s)) := by rw [List.take_append_drop]; exact h.rise
  unfold Rising at hr
  rw [List.pairwise_append] at hr
  obtain ⟨r1, r2, r3⟩ := hr
  refine ⟨?_, fun k m => ?_⟩
  · unfold Rising
    rw [List.pairwise_append]
    refine ⟨r1, List.pairwise_cons.2 ⟨fun p hp => h3 p hp, r2⟩, fun a ha b hb => ?_⟩
    rcases List.mem_cons.1 hb with rfl | hb
    · exact h1 a ha
    · exact r3 a ha b hb
  · have e1 : (k, m) ∈ l.take (findL l s) ++ (s, n) :: l.drop (findL l s) ↔ (k, m) = (s, n) ∨ (k, m) ∈ l := by
      conv => rhs; rw [← List.take_append_drop (findL l s) l]
      simp only [List.mem_append, List.mem_cons]
      constructor
      · rintro (a | a | a)
        · exact Or.inr (Or.inl a)
        · exact Or.inl a
        · exact Or.inr (Or.inr a)
      · rintro (a | a | a)
        · exact Or.inr (Or.inl a)
        · exact Or.inl a
        · exact Or.inr (Or.inr a)
    rw [e1, ← h.iff]
    unfold ins
    by_cases e : k = s
    · subst e
      rw [if_pos rfl, hn]
      constructor
      · intro a; cases a; exact Or.inl rfl
      · rintro (a | a)
        · cases a; rfl
        · cases a
    · rw [if_neg e]
      constructor
      · exact Or.inr
      · rintro (a | a)
        · cases a; exact absurd rfl e
        · exact a
theorem at_find {D : Dict} {l : Its} (h : RowIs D l) {s : Tx} {n : Int} (hn : D s = some n) : l[findL l s]? = some (s, n) := by
  have hh := hasL_iff h s
  rw [hn] at hh
  unfold hasL at hh
  cases hf : l[findL l s]? with
  | none => rw [hf] at hh; cases hh
  | some p =>
    rw [hf] at hh
    have e : p.1 = s := by simpa using hh
    have := (h.iff s p.2).2 (by rw [← e]; exact List.mem_of_getElem? hf)
    rw [hn] at this
    cases this
    rw [← e]
theorem rising_idx {l : Its} (h : Rising l) {i j : Nat} {p q : Tx × Int} (hi : l[i]? = some p) (hj : l[j]? = some q) (e : p.1 = q.1) : i = j := by
  obtain ⟨h1, e1⟩ := List.getElem?_eq_some_iff.1 hi
  obtain ⟨h2, e2⟩ := List.getElem?_eq_some_iff.1 hj
  unfold Rising at h
  rw [List.pairwise_iff_getElem] at h
  rcases Nat.lt_trichotomy i j with hl | hl | hl
  · have := h i j h1 h2 hl; rw [e1, e2, e] at this; exact absurd this (ltT_irrefl _)
  · exact hl
  · have := h j i h2 h1 hl; rw [e1, e2, e] at this; exact absurd this (ltT_irrefl _)
theorem row_set {D : Dict} {l : Its} (h : RowIs D l) {s : Tx} {m : Int} (hn : D s = some m) (n : Int) : RowIs (ins D s n) (l.set (findL l s) (s, n)) := by
  have hf := at_find h hn
  have hlt := (List.getElem?_eq_some_iff.1 hf).1
  have key : ∀ (i : Nat) (p : Tx × Int), (l.set (findL l s) (s, n))[i]? = some p → ∃ q, l[i]? = some q ∧ q.1 = p.1 := fun i p hp => by
    by_cases e : findL l s = i
    · subst e
      rw [List.getElem?_set_self hlt] at hp
      cases hp
      exact ⟨_, hf, rfl⟩
    · rw [List.getElem?_set_ne e] at hp
      exact ⟨p, hp, rfl⟩
  refine ⟨?_, fun k q => ?_⟩
  · unfold Rising
    rw [List.pairwise_iff_getElem]
    intro i j hi hj hij
    obtain ⟨p, hp, e1⟩ := key i _ (List.getElem?_eq_getElem hi)
    obtain ⟨q, hq, e2⟩ := key j _ (List.getElem?_eq_getElem hj)
    rw [← e1, ← e2]
    have h3 := h.rise
    unfold Rising at h3
    rw [List.pairwise_iff_getElem] at h3
    obtain ⟨a1, a2⟩ := List.getElem?_eq_some_iff.1 hp
    obtain ⟨b1, b2⟩ := List.getElem?_eq_some_iff.1 hq
    have := h3 i j a1 b1 hij
    rwa [a2, b2] at this
  · unfold ins
    by_cases e : k = s
    · subst e
      rw [if_pos rfl]
      constructor
      · intro a; cases a
        exact List.mem_of_getElem? (i := findL l k) (List.getElem?_set_self hlt)
      · intro a
        obtain ⟨i, hi⟩ := List.getElem?_of_mem a
        by_cases e2 : findL l k = i
        · subst e2
          rw [List.getElem?_set_self hlt] at hi
          cases hi; rfl
        · rw [List.getElem?_set_ne e2] at hi
          exact absurd (rising_idx h.rise hf hi rfl) e2
    · rw [if_neg e, h.iff]
      constructor
      · intro a
        obtain ⟨i, hi⟩ := List.getElem?_of_mem a
        refine List.mem_of_getElem? (i := i) ?_
        rw [List.getElem?_set_ne (fun e2 => by subst e2; rw [hf] at hi; cases hi; exact e rfl)]
        exact hi
      · intro a
        obtain ⟨i, hi⟩ := List.getElem?_of_mem a
        by_cases e2 : findL l s = i
        · subst e2
          rw [List.getElem?_set_self hlt] at hi
          cases hi; exact absurd rfl e
        · rw [List.getElem?_set_ne e2] at hi
          exact List.mem_of_getElem? hi
theorem row_del {D : Dict} {l : Its} (h : RowIs D l) {s : Tx} {m : Int} (hn : D s = some m) : RowIs (del D s) (l.take (findL l s) ++ l.drop (findL l s + 1)) := by
  have hf := at_find h hn
  rw [← List.eraseIdx_eq_take_drop_succ]
  refine ⟨h.rise.sublist (List.eraseIdx_sublist _ _), fun k n => ?_⟩
  unfold del
  constructor
  · intro a
    split at a
    · cases a
    · rename_i e
      obtain ⟨i, hi⟩ := List.getElem?_of_mem ((h.iff k n).1 a)
      have hne : i ≠ findL l s := fun e2 => by subst e2; rw [hf] at hi; cases hi; exact e rfl
      rcases Nat.lt_or_ge i (findL l s) with hlt | hge
      · exact List.mem_of_getElem? (i := i) (by rw [List.getElem?_eraseIdx, if_pos hlt]; exact hi)
      · exact List.mem_of_getElem? (i := i - 1) (by rw [List.getElem?_eraseIdx, if_neg (by omega), show i - 1 + 1 = i by omega]; exact hi)
  · intro a
    obtain ⟨i, hi⟩ := List.getElem?_of_mem a
    rw [List.getElem?_eraseIdx] at hi
    have hk : ∃ j, j ≠ findL l s ∧ l[j]? = some (k, n) := by
      by_cases hlt : i < findL l s
      · rw [if_pos hlt] at hi; exact ⟨i, by omega, hi⟩
      · rw [if_neg hlt] at hi; exact ⟨i + 1, by omega, hi⟩
    obtain ⟨j, hj, hjk⟩ := hk
    have e : k ≠ s := fun e => hj (rising_idx h.rise hjk hf (by simp [e]))
    rw [if_neg e]
    exact (h.iff k n).2 (List.mem_of_getElem? hjk)

/-! What is gone through from a node on. -/
def enum : Nat → Store → Nat → Tx → Its
  | 0, σ, b, ahead => match σ b with
    | none => []
    | some x => if x.is then [(ahead, x.n)] else []
  | d + 1, σ, b, ahead => match σ b with
    | none => []
    | some x => (if x.is then [(ahead, x.n)] else []) ++ (x.runes.zip x.below).flatMap fun p => enum d σ p.2 (ahead ++ [p.1])
theorem enum_succ {d : Nat} {σ : Store} {b : Nat} {x : Node} (h : σ b = some x) (ahead : Tx) : enum (d + 1) σ b ahead = (if x.is then [(ahead, x.n)] else []) ++ (x.runes.zip x.below).flatMap fun p => enum d σ p.2 (ahead ++ [p.1]) := by simp [enum, h]
theorem Rep.enum : ∀ {d : Nat} {σ : Store} {b : Nat} {D : Dict}, Rep d σ b D → ∀ (ahead : Tx) (p : Tx × Int), p ∈ Tri.enum d σ b ahead ↔ ∃ k, p.1 = ahead ++ k ∧ D k = some p.2
  | 0, σ, b, D, h, ahead, p => by
    obtain ⟨x, h1, h2, h3, h4, h5⟩ := h
    simp only [Tri.enum, h1]
    constructor
    · intro hm
      cases hi : x.is with
      | false => rw [hi] at hm; simp at hm
      | true =>
        rw [hi] at hm
        have : p = (ahead, x.n) := by simpa using hm
        subst this
        exact ⟨[], by simp, by rw [← h3]; simp [Node.own, hi]⟩
    · rintro ⟨k, e, hk⟩
      cases k with
      | nil =>
        rw [← h3] at hk
        unfold Node.own at hk
        split at hk
        · rename_i hi
          rw [if_pos hi]
          have hk := Option.some.inj hk
          simp only [List.append_nil] at e
          rw [hk, ← e]
          simp
        · cases hk
      | cons r k => rw [h5] at hk; cases hk
  | d + 1, σ, b, D, h, ahead, p => by
    obtain ⟨x, h1, h2, h3, h4, h5⟩ := h
    rw [enum_succ h1, List.mem_append, List.mem_flatMap]
    constructor
    · rintro (hm | ⟨⟨r, c⟩, hm, hp⟩)
      · cases hi : x.is with
        | false => rw [hi] at hm; simp at hm
        | true =>
          rw [hi] at hm
          have : p = (ahead, x.n) := by simpa using hm
          subst this
          exact ⟨[], by simp, by rw [← h3]; simp [Node.own, hi]⟩
      · obtain ⟨i, hi, hc⟩ := (mem_zip h2).1 hm
        obtain ⟨k, e, hk⟩ := ((h5 i r c hi hc).enum (ahead ++ [r]) p).1 hp
        exact ⟨r :: k, by rw [e]; simp, hk⟩
    · rintro ⟨k, e, hk⟩
      cases k with
      | nil =>
        left
        rw [← h3] at hk
        unfold Node.own at hk
        split at hk
        · rename_i hi
          rw [if_pos hi]
          have hk := Option.some.inj hk
          simp only [List.append_nil] at e
          rw [hk, ← e]
          simp
        · cases hk
      | cons r k =>
        right
        obtain ⟨i, hi⟩ := List.getElem?_of_mem ((h4 r).2 ⟨k, by rw [hk]; simp⟩)
        obtain ⟨c, hc⟩ := h2.below_at hi
        exact ⟨(r, c), (mem_zip h2).2 ⟨i, hi, hc⟩, ((h5 i r c hi hc).enum (ahead ++ [r]) p).2 ⟨k, by rw [e]; simp, hk⟩⟩

theorem cmpT_append (a s t : Tx) : cmpT (a ++ s) (a ++ t) = cmpT s t := by
  induction a with
  | nil => rfl
  | cons x a ih => simp [cmpT, ih]
theorem Rep.enum_rise : ∀ {d : Nat} {σ : Store} {b : Nat} {D : Dict}, Rep d σ b D → ∀ ahead, Rising (Tri.enum d σ b ahead)
  | 0, σ, b, D, h, ahead => by
    obtain ⟨x, h1, _⟩ := h
    simp only [Tri.enum, h1]
    split <;> simp [Rising]
  | d + 1, σ, b, D, h, ahead => by
    obtain ⟨x, h1, h2, h3, h4, h5⟩ := h
    rw [enum_succ h1]
    have hkid : ∀ r c, (r, c) ∈ x.runes.zip x.below → Rising (Tri.enum d σ c (ahead ++ [r])) ∧ ∀ p ∈ Tri.enum d σ c (ahead ++ [r]), ∃ k, p.1 = ahead ++ r :: k := fun r c hm => by
      obtain ⟨i, hi, hc⟩ := (mem_zip h2).1 hm
      refine ⟨(h5 i r c hi hc).enum_rise _, fun p hp => ?_⟩
      obtain ⟨k, e, _⟩ := ((h5 i r c hi hc).enum (ahead ++ [r]) p).1 hp
      exact ⟨k, by rw [e]; simp⟩
    unfold Rising
    rw [List.pairwise_append]
    refine ⟨by split <;> simp, ?_, fun p hp q hq => ?_⟩
    · have hz : (x.runes.zip x.below).Pairwise fun a b => a.1 < b.1 := by
        have := h2.rise
        have e : ∀ (l : List Int) (m : List Nat), l.Pairwise (· < ·) → (l.zip m).Pairwise fun a b => a.1 < b.1 := by
          intro l
          induction l with
          | nil => intro m _; simp
          | cons r l ih => intro m hl; cases m with
            | nil => simp
            | cons c m =>
              rw [List.zip_cons_cons]
              have hl' := List.pairwise_cons.1 hl
              exact List.pairwise_cons.2 ⟨fun p hp => hl'.1 p.1 (List.of_mem_zip (show (p.1, p.2) ∈ l.zip m from hp)).1, ih m hl'.2⟩
        exact e _ _ this
      generalize x.runes.zip x.below = z at *
      induction z with
      | nil => simp
      | cons a z ih =>
        rw [List.flatMap_cons, List.pairwise_append]
        have hz' := List.pairwise_cons.1 hz
        refine ⟨(hkid a.1 a.2 (by simp)).1, ih (fun r c hm => hkid r c (by simp [hm])) hz'.2, fun p hp q hq => ?_⟩
        obtain ⟨b', hb', hq⟩ := List.mem_flatMap.1 hq
        obtain ⟨k1, e1⟩ := (hkid a.1 a.2 (by simp)).2 p hp
        obtain ⟨k2, e2⟩ := (hkid b'.1 b'.2 (by simp [hb'])).2 q hq
        unfold ltT
        rw [e1, e2, cmpT_append]
        simp only [cmpT]
        rw [if_pos (hz'.1 b' hb')]
    · obtain ⟨⟨r, c⟩, hm, hq⟩ := List.mem_flatMap.1 hq
      obtain ⟨k, e⟩ := (hkid r c hm).2 q hq
      split at hp
      · have : p = (ahead, x.n) := by simpa using hp
        subst this
        unfold ltT
        rw [e]
        have := cmpT_append ahead [] (r :: k)
        rw [List.append_nil] at this
        rw [this]; rfl
      · cases hp

/-- What is gone through behind a text: just the texts that begin with it. -/
theorem enum_filter {d : Nat} {σ : Store} {t : Nat} {D : Dict} {l : Its} (h : Rep d σ t D) (hl : RowIs D l) (s : Tx) :
    (match findF σ t s with
      | some c => ∃ e, e ≤ d ∧ Tri.enum e σ c s = l.filter fun p => begins p.1 s
      | none => (l.filter fun p => begins p.1 s) = []) := by
  have key : ∀ {s' : Tx} {d : Nat} {b : Nat} {E : Dict}, Rep d σ b E → (match findF σ b s' with
      | some c => ∃ e, e ≤ d ∧ ∃ E', Rep e σ c E' ∧ ∀ k, E' k = E (s' ++ k)
      | none => ∀ k, E (s' ++ k) = none) := by
    intro s'
    induction s' with
    | nil => intro d b E h; exact ⟨d, Nat.le_refl _, E, h, fun k => rfl⟩
    | cons r s' ih =>
      intro d b E h
      obtain ⟨x, h1, h2, h3⟩ := h.at
      cases hc : x.to r with
      | none =>
        rw [show findF σ b (r :: s') = none by simp [findF, h1, hc]]
        exact fun k => h.none_at h1 ((h2.to_none r).1 hc) (s' ++ k)
      | some c =>
        obtain ⟨e, rfl, hr⟩ := h.step h1 hc
        have := ih hr
        rw [show findF σ b (r :: s') = findF σ c s' by simp [findF, h1, hc]]
        cases hf : findF σ c s' with
        | none => rw [hf] at this; exact this
        | some c' =>
          rw [hf] at this
          obtain ⟨e', he, E', k1, k2⟩ := this
          exact ⟨e', by omega, E', k1, k2⟩
  have := key (s' := s) h
  cases hf : findF σ t s with
  | none =>
    rw [hf] at this
    show l.filter _ = []
    rw [List.filter_eq_nil_iff]
    intro p hp hb
    obtain ⟨k, e⟩ := (begins_iff p.1 s).1 hb
    have h1 := (hl.iff p.1 p.2).2 hp
    rw [e, this k] at h1
    cases h1
  | some c =>
    rw [hf] at this
    obtain ⟨e, he, E', k1, k2⟩ := this
    refine ⟨e, he, rising_unique (k1.enum_rise s) (hl.rise.sublist List.filter_sublist) fun p => ?_⟩
    rw [k1.enum, List.mem_filter]
    constructor
    · rintro ⟨k, e1, e2⟩
      rw [k2] at e2
      exact ⟨(hl.iff p.1 p.2).1 (by rw [e1]; exact e2), (begins_iff _ _).2 ⟨k, e1⟩⟩
    · rintro ⟨h1, h2⟩
      obtain ⟨k, e1⟩ := (begins_iff _ _).1 h2
      exact ⟨k, e1, by rw [k2, ← e1]; exact (hl.iff p.1 p.2).2 h1⟩
end Go.Proofs.Ytehoanpjlinfaaa.Tri
