/- Layer 43 (pick), in plain Lean: no range is forgotten. No Go in sight. -/
import Derived.Test.YtehcndjpckolmaaPickPlain
namespace Go.Proofs.Ytehcndjpckolmaa.Pick

theorem planS_keeps (tk each most : Int) (m : Nat) : ∀ (now : Int) (out : List Int) (own : List Need) (v : Int), v ∈ out → v ∈ planS tk each most m now out own := by
  induction m with
  | zero => intro now out own v h; exact h
  | succ m ih =>
    intro now out own v h
    unfold planS
    split
    · split
      · exact ih _ _ _ _ h
      · exact ih _ _ _ _ (List.mem_append_left _ h)
    · exact h

/-- Those that are still to come. -/
def rest (n : Nat) (out : List Int) : List Nat := (List.range n).filter fun i => !out.contains (i : Int)
theorem mem_rest {n : Nat} {out : List Int} {i : Nat} : i ∈ rest n out ↔ i < n ∧ (i : Int) ∉ out := by unfold rest; simp
theorem rest_less {n : Nat} {out : List Int} {h : Nat} (hm : h ∈ rest n out) : (rest n (out ++ [(h : Int)])).length < (rest n out).length := by
  have e : rest n (out ++ [(h : Int)]) = (rest n out).filter fun i => decide (i ≠ h) := by
    unfold rest
    rw [List.filter_filter]
    congr 1
    funext i
    by_cases c : i = h
    · subst c; simp
    · have : ¬ ((i : Int) = (h : Int)) := by omega
      simp [c, this]
  rw [e, List.length_filter_lt_length_iff_exists]
  exact ⟨h, hm, by simp⟩

/-- Where the plan stands: those that came were repaired behind now, the others ahead of it. -/
structure Inv (now t : Int) (n : Nat) (out : List Int) (own : List Need) : Prop where
  len : own.length = n
  old : ∀ i : Nat, i < n → (i : Int) ∉ out → now - 1000 ≤ (nd own i).last ∧ (nd own i).last ≤ now ∧ (nd own i).waste ≤ 9 ∧ (nd own i).waiting ≤ 0
  new : ∀ i : Nat, i < n → (i : Int) ∈ out → now < (nd own i).last ∧ (nd own i).last ≤ t - 5 ∧ (nd own i).waste ≤ 9 ∧ (nd own i).waiting ≤ 0

theorem due_at {x : Need} {t : Int} (h0 : 0 ≤ x.last) (h1 : x.last ≤ t) (h2 : t ≤ 1099511627776) : dueF x t = t - x.last := by
  unfold dueF cutM; omega
theorem key_at {l : List Need} {i t : Int} (h0 : 0 ≤ (nd l i).last) (h1 : (nd l i).last ≤ t) (h2 : t ≤ 1099511627776) (h3 : (nd l i).waste ≤ 9) (h4 : (nd l i).waiting ≤ 0) : key t l i = t - (nd l i).last := by
  unfold key scoreF
  rw [due_at h0 h1 h2]
  omega

theorem plan_all (now tk most : Int) (n : Nat) (hn0 : 1000 ≤ now) (m : Nat) : ∀ (m' : Nat) (t : Int) (out : List Int) (own : List Need), m ≤ m' → now + 5 ≤ t → t + 5 * m ≤ tk → tk ≤ 1099511627776 → (out.length : Int) + m ≤ most →
    Inv now t n out own → (rest n out).length ≤ m → ∀ i : Nat, i < n → (i : Int) ∈ planS tk 5 most m' t out own := by
  induction m with
  | zero =>
    intro m' t out own _ _ _ _ _ _ hr i hi
    have h0 : rest n out = [] := List.eq_nil_of_length_eq_zero (by omega)
    refine planS_keeps _ _ _ _ _ _ _ _ ?_
    by_cases h : (i : Int) ∈ out
    · exact h
    · have := mem_rest.2 ⟨hi, h⟩
      rw [h0] at this; simp at this
  | succ m ih =>
    intro m' t out own hm ht htk hk hmost hI hr i hi
    cases hrest : rest n out with
    | nil =>
      refine planS_keeps _ _ _ _ _ _ _ _ ?_
      by_cases h : (i : Int) ∈ out
      · exact h
      · have := mem_rest.2 ⟨hi, h⟩
        rw [hrest] at this; simp at this
    | cons j js =>
      have hj := mem_rest.1 (show j ∈ rest n out by rw [hrest]; simp)
      have hjo := hI.old j hj.1 hj.2
      have hall : ∀ q : Nat, q < n → (nd own q).last ≤ t - 5 ∧ 0 ≤ (nd own q).last ∧ (nd own q).waste ≤ 9 ∧ (nd own q).waiting ≤ 0 := by
        intro q hq
        by_cases h : (q : Int) ∈ out
        · have := hI.new q hq h; omega
        · have := hI.old q hq h; omega
      have hjw : (j : Int) ∈ ordF t own := by
        rw [mem_ordF, mem_wants, hI.len]
        refine ⟨by omega, by omega, ?_⟩
        have := hall j hj.1
        unfold wantB
        rw [due_at (by omega) (by omega) (by omega)]
        simp; omega
      obtain ⟨m'', rfl⟩ : ∃ k, m' = k + 1 := ⟨m' - 1, by omega⟩
      cases ho : ordF t own with
      | nil => rw [ho] at hjw; simp at hjw
      | cons h tl =>
        obtain ⟨hh0, hh1⟩ := ordF_head ho
        rw [hI.len] at hh1
        obtain ⟨q, rfl⟩ := Int.eq_ofNat_of_zero_le hh0
        have hq : q < n := by omega
        have hqn : (q : Int) ∉ out := by
          intro hc
          have hqo := hI.new q hq hc
          have kq : key t own q = t - (nd own q).last := key_at (by omega) (by omega) (by omega) (hall q hq).2.2.1 (hall q hq).2.2.2
          have kj : key t own j = t - (nd own j).last := key_at (by omega) (by omega) (by omega) (hall j hj.1).2.2.1 (hall j hj.1).2.2.2
          rw [ho] at hjw
          rcases List.mem_cons.1 hjw with e | e
          · rw [e] at hj; exact hj.2 hc
          · have hr := ordF_rising t own
            rw [ho] at hr
            have := (List.pairwise_cons.1 hr).1 _ e
            unfold R at this
            omega
        rw [planS_some ⟨by omega, by omega⟩ ho]
        have hI' : Inv now (t + 5) n (out ++ [(q : Int)]) (own.set (q : Int).toNat ⟨t, 0, 0⟩) := by
          rw [Int.toNat_natCast]
          refine ⟨by rw [List.length_set]; exact hI.len, fun i hi hni => ?_, fun i hi hii => ?_⟩
          · have hne : i ≠ q := fun e => hni (by simp [e])
            have e : nd (own.set q ⟨t, 0, 0⟩) i = nd own i := by unfold nd; simp [List.getElem?_set, Ne.symm hne]
            rw [e]
            exact hI.old i hi (fun h => hni (List.mem_append_left _ h))
          · by_cases c : i = q
            · subst c
              have e : nd (own.set i ⟨t, 0, 0⟩) i = ⟨t, 0, 0⟩ := by unfold nd; simp [hI.len, hi]
              rw [e]
              exact ⟨by show now < t; omega, by show t ≤ t + 5 - 5; omega, by show (0 : Int) ≤ 9; omega, by show (0 : Int) ≤ 0; omega⟩
            · have e : nd (own.set q ⟨t, 0, 0⟩) i = nd own i := by unfold nd; simp [List.getElem?_set, Ne.symm c]
              rw [e]
              have hio : (i : Int) ∈ out := by
                rcases List.mem_append.1 hii with h | h
                · exact h
                · simp at h; omega
              have := hI.new i hi hio
              omega
        have hless := rest_less (mem_rest.2 ⟨hq, hqn⟩)
        exact ih m'' (t + 5) _ _ (by omega) (by omega) (by omega) hk (by simp; omega) hI' (by omega) i hi

/-- Of some ranges that were repaired not long ago, and for which nobody waits, each is repaired. -/
theorem plan_each (l : List Need) (now : Int) (h1 : 1000 ≤ now) (h2 : now ≤ 1073741824) (h3 : l.length ≤ 8) (hl : ∀ x ∈ l, now - 1000 ≤ x.last ∧ x.last ≤ now ∧ x.waste ≤ 9 ∧ x.waiting ≤ 0) :
    ∀ i : Nat, i < l.length → (i : Int) ∈ planS (cutM (now + 5 + 10 * l.length)) (min (max 5 1) 1099511627776) (2 * l.length) 1000 (cutM (now + 5)) [] l := by
  have e1 : cutM (now + 5 + 10 * l.length) = now + 5 + 10 * l.length := by unfold cutM; omega
  have e2 : cutM (now + 5) = now + 5 := by unfold cutM; omega
  have e3 : min (max (5 : Int) 1) 1099511627776 = 5 := by omega
  rw [e1, e2, e3]
  refine plan_all now _ _ l.length h1 l.length 1000 (now + 5) [] l (by omega) (by omega) (by omega) (by omega) (by simp; omega) ⟨rfl, fun i hi _ => ?_, fun i hi h => by simp at h⟩ ?_
  · rw [nd_at l i hi]
    exact hl _ (List.getElem_mem hi)
  · unfold rest
    have := List.length_filter_le (fun i : Nat => !([] : List Int).contains (i : Int)) (List.range l.length)
    simpa using this
end Go.Proofs.Ytehcndjpckolmaa.Pick
