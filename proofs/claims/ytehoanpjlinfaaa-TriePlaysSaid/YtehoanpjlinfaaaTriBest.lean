/- The longest text that one begins with: as the trie's walk finds it, and as the law's row says it. -/
import Derived.Test.YtehoanpjlinfaaaTriEq
import Derived.Test.YtehoanpjlinfaaaTriStep2
namespace Go.Proofs.Ytehoanpjlinfaaa.Tri
open Go.RowKit

/-- The longest one, up to a length. -/
def Top (D : Dict) (r : Tx) (n : Nat) (o : Option (Tx × Int)) : Prop := match o with
  | none => ∀ k, k <+: r → k.length ≤ n → D k = none
  | some p => D p.1 = some p.2 ∧ p.1 <+: r ∧ p.1.length ≤ n ∧ ∀ k, k <+: r → k.length ≤ n → D k ≠ none → k.length ≤ p.1.length
theorem Top.unique {D : Dict} {r : Tx} {n : Nat} {o q : Option (Tx × Int)} (h : Top D r n o) (k : Top D r n q) : o = q := by
  cases o with
  | none => cases q with
    | none => rfl
    | some q => have := h q.1 k.2.1 k.2.2.1; rw [k.1] at this; cases this
  | some p => cases q with
    | none => have := k p.1 h.2.1 h.2.2.1; rw [h.1] at this; cases this
    | some q =>
      have e1 := h.2.2.2 q.1 k.2.1 k.2.2.1 (by rw [k.1]; simp)
      have e2 := k.2.2.2 p.1 h.2.1 h.2.2.1 (by rw [h.1]; simp)
      have e : p.1 = q.1 := (List.prefix_of_prefix_length_le h.2.1 k.2.1 e2).eq_of_length (by omega)
      have e3 := h.1
      rw [e, k.1] at e3
      exact congrArg some (Prod.ext e (Option.some.inj e3).symm)

theorem longD_top (D : Dict) (r : Tx) : ∀ (s ahead : Tx) (best : Option (Tx × Int)) (E : Dict), r = ahead ++ s → (∀ k, E k = D (ahead ++ k)) → Top D r ahead.length best → Top D r r.length (longD E s ahead best)
  | [], ahead, best, E, hr, hE, ht => by
    have : r = ahead := by simpa using hr
    rw [← this] at ht; exact ht
  | c :: s, ahead, best, E, hr, hE, ht => by
    have hr2 : r = (ahead ++ [c]) ++ s := by rw [hr]; simp
    refine longD_top D r s (ahead ++ [c]) _ (sub E c) hr2 (fun k => by show E (c :: k) = _; rw [hE]; simp) ?_
    have hpre : (ahead ++ [c]) <+: r := ⟨s, hr2.symm⟩
    have hone : ∀ k, k <+: r → k.length ≤ (ahead ++ [c]).length → k.length ≤ ahead.length ∨ k = ahead ++ [c] := fun k h1 h2 => by
      rcases Nat.lt_or_ge ahead.length k.length with h | h
      · exact Or.inr ((List.prefix_of_prefix_length_le h1 hpre h2).eq_of_length (by simp at h2 ⊢; omega))
      · exact Or.inl h
    have hE1 := hE [c]
    cases hc : E [c] with
    | some n =>
      rw [hc] at hE1
      exact ⟨hE1.symm, hpre, Nat.le_refl _, fun k _ h2 _ => h2⟩
    | none =>
      rw [hc] at hE1
      cases best with
      | none => exact fun k h1 h2 => (hone k h1 h2).elim (fun h => ht k h1 h) fun h => by rw [h]; exact hE1.symm
      | some p => exact ⟨ht.1, ht.2.1, by have := ht.2.2.1; simp; omega, fun k h1 h2 h3 => (hone k h1 h2).elim (fun h => ht.2.2.2 k h1 h h3) fun h => by rw [h] at h3; exact (h3 hE1.symm).elim⟩
theorem long_top (D : Dict) (r : Tx) : Top D r r.length (long D r) := by
  refine longD_top D r r [] _ D rfl (fun k => rfl) ?_
  cases hD : D [] with
  | none => exact fun k _ h => by rw [List.length_eq_zero_iff.1 (Nat.le_zero.1 h)]; exact hD
  | some n => exact ⟨hD, List.nil_prefix, Nat.le_refl _, fun k _ h _ => h⟩

/-- The last one of a row that a text begins with. -/
def lastB (r : Tx) (l : Its) : Option (Tx × Int) := l.foldl (fun o p => if begins r p.1 then some p else o) none
theorem lastB_snoc (r : Tx) (l : Its) (p : Tx × Int) : lastB r (l ++ [p]) = if begins r p.1 then some p else lastB r l := by unfold lastB; rw [List.foldl_append]; rfl
theorem prefix_lt {a b : Tx} (h : ltT a b) (r : Tx) (ha : a <+: r) (hb : b <+: r) : a.length ≤ b.length := by
  rcases Nat.lt_or_ge b.length a.length with h2 | h2
  · obtain ⟨t, e⟩ := List.prefix_of_prefix_length_le hb ha (Nat.le_of_lt h2)
    unfold ltT at h
    rw [← e] at h
    have := cmpT_append b t []
    rw [List.append_nil] at this
    rw [this] at h
    cases t with
    | nil => simp at e; rw [e] at h2; omega
    | cons c t => simp [cmpT] at h
  · exact h2
theorem begins_pre {r a : Tx} : begins r a = true ↔ a <+: r := by
  rw [begins_iff]
  constructor
  · rintro ⟨k, e⟩; exact ⟨k, e.symm⟩
  · rintro ⟨k, e⟩; exact ⟨k, e.symm⟩
theorem rev_ind {α : Type} {P : List α → Prop} (h0 : P []) (h1 : ∀ m x, P m → P (m ++ [x])) (m : List α) : P m := by
  have h : ∀ k : List α, P k.reverse := fun k => by
    induction k with
    | nil => exact h0
    | cons x k ih => rw [List.reverse_cons]; exact h1 _ _ ih
  have := h m.reverse
  rwa [List.reverse_reverse] at this
theorem lastB_is (r : Tx) : ∀ (m : Its), Rising m → (match lastB r m with
    | none => ∀ q ∈ m, begins r q.1 = false
    | some p => p ∈ m ∧ begins r p.1 = true ∧ ∀ q ∈ m, begins r q.1 = true → q.1.length ≤ p.1.length) := by
  refine rev_ind (fun _ q hq => by cases hq) ?_
  · intro m x ih hm
    have h1 := List.pairwise_append.1 hm
    have ih := ih h1.1
    rw [lastB_snoc]
    cases hb : begins r x.1 with
    | true =>
      refine ⟨by simp, hb, fun q hq hqb => ?_⟩
      rcases List.mem_append.1 hq with h | h
      · exact prefix_lt (h1.2.2 q h x (by simp)) r (begins_pre.1 hqb) (begins_pre.1 hb)
      · obtain rfl : q = x := by simpa using h
        exact Nat.le_refl _
    | false =>
      rw [if_neg (by simp)]
      cases hl : lastB r m with
      | none =>
        rw [hl] at ih
        intro q hq
        rcases List.mem_append.1 hq with h | h
        · exact ih q h
        · obtain rfl : q = x := by simpa using h
          exact hb
      | some p =>
        rw [hl] at ih
        refine ⟨List.mem_append_left _ ih.1, ih.2.1, fun q hq hqb => ?_⟩
        rcases List.mem_append.1 hq with h | h
        · exact ih.2.2 q h hqb
        · obtain rfl : q = x := by simpa using h
          rw [hb] at hqb; cases hqb
theorem lastB_top {D : Dict} {l : Its} (h : RowIs D l) (r : Tx) : Top D r r.length (lastB r l) := by
  have hi := lastB_is r l h.rise
  have hmem : ∀ k, k <+: r → D k ≠ none → ∃ n, (k, n) ∈ l ∧ begins r k = true := fun k h1 h2 => by
    cases hk : D k with
    | none => exact (h2 hk).elim
    | some n => exact ⟨n, (h.iff k n).1 hk, begins_pre.2 h1⟩
  cases hl : lastB r l with
  | none =>
    rw [hl] at hi
    intro k h1 _
    cases hk : D k with
    | none => rfl
    | some n =>
      obtain ⟨n, hn, hb⟩ := hmem k h1 (by rw [hk]; simp)
      have := hi _ hn
      rw [hb] at this; cases this
  | some p =>
    rw [hl] at hi
    refine ⟨(h.iff p.1 p.2).2 hi.1, begins_pre.1 hi.2.1, (begins_pre.1 hi.2.1).length_le, fun k h1 _ h3 => ?_⟩
    obtain ⟨n, hn, hb⟩ := hmem k h1 h3
    exact hi.2.2 _ hn hb
theorem long_lastB {D : Dict} {l : Its} (h : RowIs D l) (r : Tx) : long D r = lastB r l := (long_top D r).unique (lastB_top h r)

theorem step_any (t : Nat) (ao : Option Addr) (ac : Nat) (l : List RI) (kind n : Int) (s : ByteArray) (D : Dict) (d β N : Nat) (σ : Store) (w : World)
    (H : Alike w β t d N σ D (.slice ao l.length ac) l) (hβ : β ≤ w.heap.size) (hN : N + 50 ≤ 99999) (hd : 50 ≤ d) (hl : l.length ≤ 1000) (hz : s.size ≤ 50) (hk0 : 0 ≤ kind) (hk1 : kind ≤ 9223372036854775807) :
    Calls Try.prog 8 #[enP t, .slice ao l.length ac, .agg #[.int .i64 kind, .int .i64 n, .string s]] w (StepPost σ t d β N l w) := by
  cases his : hasL (its l) (runesOf s)
  · by_cases h2 : kind % 4 = 2
    · exact step_drop_not t ao ac l kind n s D d β N σ w h2 his H hβ hN hd hl hz hk0 hk1
    · by_cases h3 : kind % 4 = 3
      · exact step_get_not t ao ac l kind n s D d β N σ w h3 his H hβ hN hd hl hz hk0 hk1
      · exact step_put_not t ao ac l kind n s D d β N σ w ⟨h2, h3⟩ his H hβ hN hd hl hz hk0 hk1
  · by_cases h2 : kind % 4 = 2
    · exact step_drop_is t ao ac l kind n s D d β N σ w h2 his H hβ hN hd hl hz hk0 hk1
    · by_cases h3 : kind % 4 = 3
      · exact step_get_is t ao ac l kind n s D d β N σ w h3 his H hβ hN hd hl hz hk0 hk1
      · exact step_put_is t ao ac l kind n s D d β N σ w ⟨h2, h3⟩ his H hβ hN hd hl hz hk0 hk1
end Go.Proofs.Ytehoanpjlinfaaa.Tri
