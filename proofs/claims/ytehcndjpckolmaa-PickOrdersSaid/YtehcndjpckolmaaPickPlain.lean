/- Layer 43 (pick), in plain Lean: how much ranges want to be repaired, and in which order. No Go in sight. -/
import Derived.WalkKit
namespace Go.Proofs.Ytehcndjpckolmaa.Pick

/-- A range: when it was repaired last, its waste, who waits. -/
structure Need where
  last : Int
  waste : Int
  waiting : Int
def none_ : Need := ⟨0, 0, 0⟩

def cutM (n : Int) : Int := min (max n 0) 1099511627776
theorem cutM_bd (n : Int) : 0 ≤ cutM n ∧ cutM n ≤ 1099511627776 := by unfold cutM; omega
def dueF (x : Need) (now : Int) : Int := max (cutM now - cutM x.last) 0
theorem dueF_bd (x : Need) (now : Int) : 0 ≤ dueF x now ∧ dueF x now ≤ 1099511627776 := by
  have := cutM_bd now; have := cutM_bd x.last; unfold dueF; omega
def scoreF (x : Need) (now : Int) : Int := dueF x now + 10 * min (max x.waiting 0) 100 + min (max x.waste 0) 100 / 10
theorem scoreF_bd (x : Need) (now : Int) : 0 ≤ scoreF x now ∧ scoreF x now ≤ 1099511628786 := by
  have := dueF_bd x now; unfold scoreF; omega
def wantB (now : Int) (x : Need) : Bool := decide (5 ≤ dueF x now) || decide (0 < x.waiting)

def nd (l : List Need) (i : Int) : Need := l.getD i.toNat none_
theorem nd_at (l : List Need) (i : Nat) (h : i < l.length) : nd l i = l[i] := by simp [nd, h]
def key (now : Int) (l : List Need) (i : Int) : Int := scoreF (nd l i) now
def R (now : Int) (l : List Need) (i j : Int) : Prop := key now l j < key now l i ∨ (key now l i = key now l j ∧ i < j)
instance (now : Int) (l : List Need) (i j : Int) : Decidable (R now l i j) := by unfold R; infer_instance
def wants (now : Int) (l : List Need) : List Int := ((List.range l.length).filter (fun i : Nat => wantB now (nd l i))).map (fun i : Nat => (i : Int))

theorem R_irrefl (now : Int) (l : List Need) (i : Int) : ¬ R now l i i := by unfold R; omega
theorem R_trans {now : Int} {l : List Need} {i j k : Int} (h1 : R now l i j) (h2 : R now l j k) : R now l i k := by unfold R at *; omega
theorem R_total (now : Int) (l : List Need) {i j : Int} (h : i ≠ j) : R now l i j ∨ R now l j i := by unfold R; omega
theorem R_asymm {now : Int} {l : List Need} {i j : Int} (h1 : R now l i j) (h2 : R now l j i) : False := by unfold R at *; omega

theorem mem_wants {now : Int} {l : List Need} {v : Int} : v ∈ wants now l ↔ 0 ≤ v ∧ v < l.length ∧ wantB now (nd l v) = true := by
  unfold wants
  simp only [List.mem_map, List.mem_filter, List.mem_range]
  constructor
  · rintro ⟨i, ⟨h1, h2⟩, rfl⟩
    exact ⟨by omega, by omega, h2⟩
  · rintro ⟨h1, h2, h3⟩
    refine ⟨v.toNat, ⟨by omega, ?_⟩, by omega⟩
    rw [show ((v.toNat : Nat) : Int) = v by omega]; exact h3

/-- The order. -/
def ordF (now : Int) (l : List Need) : List Int := (wants now l).mergeSort (fun i j => !decide (R now l j i))

/-- Two strictly rising rows of the same members are one. -/
theorem rising_eq {r : Int → Int → Prop} (ha : ∀ {x y}, r x y → r y x → False) : ∀ (a b : List Int), a.Pairwise r → b.Pairwise r → (∀ v, v ∈ a ↔ v ∈ b) → a = b
  | [], [], _, _, _ => rfl
  | [], y :: b, _, _, h => by have := (h y).2 (by simp); simp at this
  | x :: a, [], _, _, h => by have := (h x).1 (by simp); simp at this
  | x :: a, y :: b, h1, h2, h => by
    rw [List.pairwise_cons] at h1 h2
    have e : x = y := by
      have hx := (h x).1 (by simp)
      have hy := (h y).2 (by simp)
      rcases List.mem_cons.1 hx with e | hx
      · exact e
      rcases List.mem_cons.1 hy with e | hy
      · exact e.symm
      exact (ha (h2.1 x hx) (h1.1 y hy)).elim
    subst e
    have hnx : ∀ {z}, r x z → z ≠ x := fun hz e => by subst e; exact ha hz hz
    rw [rising_eq ha a b h1.2 h2.2 fun v => ⟨fun hv => (List.mem_cons.1 ((h v).1 (by simp [hv]))).elim (fun e => (hnx (h1.1 v hv) e).elim) id, fun hv => (List.mem_cons.1 ((h v).2 (by simp [hv]))).elim (fun e => (hnx (h2.1 v hv) e).elim) id⟩]

theorem nodup_wants (now : Int) (l : List Need) : (wants now l).Nodup := by
  unfold wants
  refine List.Pairwise.map _ (fun a b h => ?_) (List.Pairwise.filter _ List.nodup_range)
  omega

theorem mem_ordF {now : Int} {l : List Need} {v : Int} : v ∈ ordF now l ↔ v ∈ wants now l := (List.mergeSort_perm _ _).mem_iff
theorem ordF_len (now : Int) (l : List Need) : (ordF now l).length = (wants now l).length := (List.mergeSort_perm _ _).length_eq
theorem wants_len (now : Int) (l : List Need) : (wants now l).length ≤ l.length := by
  unfold wants; rw [List.length_map]
  have := List.length_filter_le (fun i : Nat => wantB now (nd l i)) (List.range l.length)
  simpa using this
theorem nodup_ordF (now : Int) (l : List Need) : (ordF now l).Nodup := (List.mergeSort_perm _ _).symm.nodup (nodup_wants now l)

theorem ordF_rising (now : Int) (l : List Need) : (ordF now l).Pairwise (R now l) := by
  have h := List.pairwise_mergeSort (le := fun i j => !decide (R now l j i)) (fun a b c h1 h2 => by
    simp only [Bool.not_eq_true', decide_eq_false_iff_not] at *
    unfold R at *; omega) (fun a b => by
    by_cases hab : R now l a b
    · have : ¬ R now l b a := fun h => R_asymm hab h
      simp [hab, this]
    · simp [hab]) (wants now l)
  have hn := nodup_ordF now l
  have := List.Pairwise.and h hn
  refine this.imp fun {a b} hab => ?_
  obtain ⟨h1, h2⟩ := hab
  simp only [Bool.not_eq_true', decide_eq_false_iff_not] at h1
  rcases R_total now l h2 with h | h
  · exact h
  · exact (h1 h).elim

theorem ordF_eq {now : Int} {l : List Need} {o : List Int} (h1 : o.Pairwise (R now l)) (h2 : ∀ v, v ∈ o ↔ v ∈ wants now l) : o = ordF now l :=
  rising_eq (fun {_ _} => R_asymm) _ _ h1 (ordF_rising now l) fun v => (h2 v).trans mem_ordF.symm

/-- The law's search: the greatest of those that are left, the first one. -/
def cand (now : Int) (l : List Need) (out : List Int) (i : Int) : Bool := !out.contains i && wantB now (nd l i)
def better (now : Int) (l : List Need) (best i : Int) : Bool := decide (best < 0) || decide (key now l best < key now l i)
def bestF (now : Int) (l : List Need) (out : List Int) : Nat → Int
  | 0 => -1
  | i + 1 => if cand now l out i && better now l (bestF now l out i) i then (i : Int) else bestF now l out i

theorem bestF_bd (now : Int) (l : List Need) (out : List Int) (n : Nat) : -1 ≤ bestF now l out n ∧ bestF now l out n < n := by
  induction n with
  | zero => simp [bestF]
  | succ n ih => unfold bestF; split <;> omega

theorem bestF_spec (now : Int) (l : List Need) (out : List Int) (n : Nat) :
    (bestF now l out n = -1 → ∀ i : Nat, i < n → cand now l out i = false) ∧
    (bestF now l out n ≠ -1 → cand now l out (bestF now l out n) = true ∧ ∀ i : Nat, i < n → cand now l out i = true → (i : Int) = bestF now l out n ∨ R now l (bestF now l out n) i) := by
  induction n with
  | zero => exact ⟨fun _ i h => by omega, fun h => (h rfl).elim⟩
  | succ n ih =>
    have hb := bestF_bd now l out n
    unfold bestF
    split
    · rename_i h
      rw [Bool.and_eq_true] at h
      obtain ⟨hc, hbt⟩ := h
      refine ⟨fun h => by omega, fun _ => ⟨hc, fun i hi hci => ?_⟩⟩
      by_cases e : i = n
      · subst e; exact Or.inl rfl
      right
      by_cases hm : bestF now l out n = -1
      · rw [ih.1 hm i (by omega)] at hci; simp at hci
      have h2 := (ih.2 hm).2 i (by omega) hci
      unfold better at hbt
      simp only [Bool.or_eq_true, decide_eq_true_eq] at hbt
      rcases hbt with hbt | hbt
      · omega
      · rcases h2 with h2 | h2
        · rw [h2]; exact Or.inl hbt
        · unfold R at h2 ⊢; omega
    · rename_i h
      refine ⟨fun hm i hi => ?_, fun hm => ⟨(ih.2 hm).1, fun i hi hci => ?_⟩⟩
      · by_cases e : i = n
        · subst e
          cases hc : cand now l out i
          · rfl
          · exact (h (by rw [hc]; simp [better, hm])).elim
        · exact ih.1 hm i (by omega)
      · by_cases e : i = n
        · subst e
          rw [hci] at h
          unfold better at h
          simp only [Bool.true_and, Bool.or_eq_true, decide_eq_true_eq, not_or] at h
          right
          unfold R
          omega
        · exact (ih.2 hm).2 i (by omega) hci

/-- What the search finds behind the first k. -/
theorem bestF_ord (now : Int) (l : List Need) (k : Nat) : bestF now l ((ordF now l).take k) l.length = (ordF now l).getD k (-1) := by
  have hs := bestF_spec now l ((ordF now l).take k) l.length
  have hbd := bestF_bd now l ((ordF now l).take k) l.length
  have hn := nodup_ordF now l
  have hr := ordF_rising now l
  have hcand : ∀ v : Int, 0 ≤ v → v < l.length → (cand now l ((ordF now l).take k) v = true ↔ v ∈ (ordF now l).drop k) := by
    intro v h0 h1
    have hm : v ∈ ordF now l ↔ wantB now (nd l v) = true := by rw [mem_ordF, mem_wants]; simp [h0, h1]
    unfold cand
    rw [Bool.and_eq_true, ← hm]
    have hsplit := List.take_append_drop k (ordF now l)
    have hdis : ∀ x, x ∈ (ordF now l).take k → x ∈ (ordF now l).drop k → False := by
      intro x hx hy
      rw [← hsplit] at hn
      exact (List.pairwise_append.1 hn).2.2 x hx x hy rfl
    constructor
    · rintro ⟨h2, h3⟩
      rw [← hsplit, List.mem_append] at h3
      rcases h3 with h3 | h3
      · simp at h2; exact (h2 h3).elim
      · exact h3
    · intro h2
      refine ⟨?_, List.mem_of_mem_drop h2⟩
      simp only [Bool.not_eq_true', List.contains_eq_mem, decide_eq_false_iff_not]
      exact fun h => hdis v h h2
  by_cases hk : k < (ordF now l).length
  · have hd := List.drop_eq_getElem_cons hk
    have hmem : (ordF now l)[k] ∈ wants now l := mem_ordF.1 (List.getElem_mem hk)
    obtain ⟨g0, g1, _⟩ := mem_wants.1 hmem
    have hc : cand now l ((ordF now l).take k) (ordF now l)[k] = true := (hcand _ g0 g1).2 (by rw [hd]; exact List.mem_cons_self)
    have e0 : (((ordF now l)[k].toNat : Nat) : Int) = (ordF now l)[k] := by omega
    have hne : bestF now l ((ordF now l).take k) l.length ≠ -1 := by
      intro h
      have := hs.1 h (ordF now l)[k].toNat (by omega)
      rw [e0, hc] at this; simp at this
    obtain ⟨h1, h2⟩ := hs.2 hne
    have h3 := h2 (ordF now l)[k].toNat (by omega) (by rw [e0]; exact hc)
    rw [e0] at h3
    simp only [List.getD_eq_getElem?_getD, List.getElem?_eq_getElem hk, Option.getD_some]
    rcases h3 with h3 | h3
    · exact h3.symm
    · have h4 := (hcand _ (by omega) (by omega)).1 h1
      rw [hd] at h4
      rcases List.mem_cons.1 h4 with h4 | h4
      · simpa using h4
      · have hp := hr
        rw [← List.take_append_drop k (ordF now l), hd] at hp
        have := (List.pairwise_cons.1 (List.pairwise_append.1 hp).2.1).1 _ h4
        exact (R_asymm h3 this).elim
  · have e : (ordF now l).getD k (-1) = -1 := by simp [List.getElem?_eq_none (Nat.le_of_not_lt hk)]
    rw [e]
    by_cases hm : bestF now l ((ordF now l).take k) l.length = -1
    · exact hm
    · have h1 := (hs.2 hm).1
      rw [hcand _ (by omega) (by omega), List.drop_of_length_le (by omega)] at h1
      simp at h1

/-- Those of the first k that want to be repaired. -/
def wantsK (now : Int) (l : List Need) (k : Nat) : List Int := ((List.range k).filter (fun i : Nat => wantB now (nd l i))).map (fun i : Nat => (i : Int))
theorem wantsK_all (now : Int) (l : List Need) : wantsK now l l.length = wants now l := rfl
theorem wantsK_yes (now : Int) (l : List Need) (k : Nat) (h : wantB now (nd l k) = true) : wantsK now l (k + 1) = wantsK now l k ++ [(k : Int)] := by
  unfold wantsK; rw [List.range_succ, List.filter_append, List.map_append]; simp [h]
theorem wantsK_no (now : Int) (l : List Need) (k : Nat) (h : wantB now (nd l k) = false) : wantsK now l (k + 1) = wantsK now l k := by
  unfold wantsK; rw [List.range_succ, List.filter_append, List.map_append]; simp [h]
theorem wantsK_len (now : Int) (l : List Need) (k : Nat) : (wantsK now l k).length ≤ k := by
  unfold wantsK; rw [List.length_map]
  have := List.length_filter_le (fun i : Nat => wantB now (nd l i)) (List.range k)
  simpa using this
theorem wants_rising (now : Int) (l : List Need) : (wants now l).Pairwise (· < ·) := by
  unfold wants
  refine List.Pairwise.map _ (fun a b h => ?_) (List.Pairwise.filter _ List.pairwise_lt_range)
  omega
theorem wants_getD_lt (now : Int) (l : List Need) (p q : Nat) (h : p < q) (hq : q < (wants now l).length) : (wants now l).getD p 0 < (wants now l).getD q 0 := by
  have := List.pairwise_iff_getElem.1 (wants_rising now l) p q (by omega) hq h
  simp only [List.getD_eq_getElem?_getD, List.getElem?_eq_getElem hq, List.getElem?_eq_getElem (show p < (wants now l).length by omega), Option.getD_some]
  exact this
/-- A sorted row of just these is the order. -/
theorem ordF_row {now : Int} {l : List Need} {n : Nat} {f : Nat → Int} (hn : n = (wants now l).length) (h1 : ∀ p q, p < q → q < n → R now l (f p) (f q)) (h2 : ∀ v, (∃ k, k < n ∧ f k = v) ↔ ∃ k, k < n ∧ (wants now l).getD k 0 = v) : (List.range n).map f = ordF now l := by
  refine ordF_eq ?_ fun v => ?_
  · rw [List.pairwise_iff_getElem]
    intro i j hi hj hij
    simp only [List.length_map, List.length_range] at hi hj
    simpa using h1 i j hij hj
  · have e : v ∈ (List.range n).map f ↔ ∃ k, k < n ∧ f k = v := by simp
    rw [e, h2 v]
    constructor
    · rintro ⟨k, hk, rfl⟩
      rw [hn] at hk
      simp [hk]
    · intro hv
      obtain ⟨k, hk, e⟩ := List.getElem_of_mem hv
      exact ⟨k, by omega, by simp [hk, e]⟩

/-- The plan: at most so many rounds from here on. -/
def planS (tk each most : Int) : Nat → Int → List Int → List Need → List Int
  | 0, _, out, _ => out
  | m + 1, now, out, own => if now < tk ∧ (out.length : Int) < most then
      (match ordF now own with
        | [] => planS tk each most m (now + each) out own
        | i :: _ => planS tk each most m (now + each) (out ++ [i]) (own.set i.toNat ⟨now, 0, 0⟩))
      else out
theorem planS_stop {tk each most : Int} {m : Nat} {now : Int} {out : List Int} {own : List Need} (h : ¬ (now < tk ∧ (out.length : Int) < most)) : planS tk each most m now out own = out := by
  cases m with
  | zero => rfl
  | succ m => unfold planS; rw [if_neg h]
theorem planS_none {tk each most : Int} {m : Nat} {now : Int} {out : List Int} {own : List Need} (h : now < tk ∧ (out.length : Int) < most) (ho : ordF now own = []) : planS tk each most (m + 1) now out own = planS tk each most m (now + each) out own := by
  rw [planS, if_pos h, ho]
theorem planS_some {tk each most : Int} {m : Nat} {now : Int} {out : List Int} {own : List Need} {i : Int} {t : List Int} (h : now < tk ∧ (out.length : Int) < most) (ho : ordF now own = i :: t) : planS tk each most (m + 1) now out own = planS tk each most m (now + each) (out ++ [i]) (own.set i.toNat ⟨now, 0, 0⟩) := by
  rw [planS, if_pos h, ho]
theorem ordF_head {now : Int} {l : List Need} {i : Int} {t : List Int} (h : ordF now l = i :: t) : 0 ≤ i ∧ i < l.length := by
  have := mem_wants.1 (mem_ordF.1 (show i ∈ ordF now l by rw [h]; simp))
  exact ⟨this.1, this.2.1⟩
end Go.Proofs.Ytehcndjpckolmaa.Pick
