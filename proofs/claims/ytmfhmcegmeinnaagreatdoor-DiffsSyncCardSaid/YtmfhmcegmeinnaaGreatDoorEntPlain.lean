/- Rows of entries in plain Lean: the order, what parts two sorted rows. -/
import Derived.Test.YtmfhmcegmeinnaaGreatDoorEntLaw
set_option linter.unusedSimpArgs false
set_option linter.unusedVariables false
namespace Go.Proofs.YtmfhmcegmeinnaaGreatDoor.Diffs
open Go.Proofs.YtmfhmcegmeinnaaGreatDoor.Cmp

theorem stE_lt (a b : Ent) : stE a b < 0 ↔ a.p < b.p ∨ (a.p = b.p ∧ (a.l < b.l ∨ (a.l = b.l ∧ a.h < b.h))) := by
  simp only [stE, stC, orL, cmpI]
  repeat' split
  all_goals omega
theorem stE_gt (a b : Ent) : 0 < stE a b ↔ b.p < a.p ∨ (a.p = b.p ∧ (b.l < a.l ∨ (a.l = b.l ∧ b.h < a.h))) := by
  simp only [stE, stC, orL, cmpI]
  repeat' split
  all_goals omega
theorem stE_zero (a b : Ent) : stE a b = 0 ↔ a.p = b.p ∧ a.l = b.l ∧ a.h = b.h := by
  simp only [stE, stC, orL, cmpI]
  repeat' split
  all_goals omega
theorem less_asymm {a b : List UInt8} (h : Op.bytesLess a b = true) : Op.bytesLess b a = false := by
  cases e : Op.bytesLess b a with
  | false => rfl
  | true => have := less_trans _ _ _ e h; rw [less_irrefl] at this; cases this
theorem less_ne {a b : List UInt8} (h : Op.bytesLess a b = true) : a ≠ b := fun e => by rw [e, less_irrefl] at h; cases h
theorem cmpS_lt (a b : ByteArray) : cmpS a b < 0 ↔ Op.bytesLess a.toList b.toList = true := by
  unfold cmpS lessS
  cases h : Op.bytesLess a.toList b.toList
  · simp; split <;> omega
  · simp
theorem cmpS_gt (a b : ByteArray) : 0 < cmpS a b ↔ Op.bytesLess b.toList a.toList = true := by
  unfold cmpS lessS
  rcases less_total a.toList b.toList with h | h | h
  · simp [h, less_asymm h]
  · simp [h, less_irrefl]
  · simp [h, less_asymm h, (less_ne h).symm]
theorem entC_lt (a b : Ent) : entC a b < 0 ↔ Op.bytesLess a.k.toList b.k.toList = true ∨ (a.k.toList = b.k.toList ∧ stE a b < 0) := by
  rw [entC_eq]
  by_cases h : a.k.toList = b.k.toList
  · simp [h, less_irrefl]
  · have hb : (a.k.toList == b.k.toList) = false := by simpa using h
    rw [hb]
    simp [h, cmpS_lt]
theorem entC_gt (a b : Ent) : 0 < entC a b ↔ entC b a < 0 := by
  rw [entC_lt, entC_eq]
  by_cases h : a.k.toList = b.k.toList
  · simp only [h, beq_self_eq_true, if_true, less_irrefl, Bool.false_eq_true, false_or, true_and]
    rw [stE_gt, stE_lt]
    constructor <;> intro h <;> omega
  · have hb : (a.k.toList == b.k.toList) = false := by simpa using h
    rw [hb]
    simp only [Bool.false_eq_true, if_false, cmpS_gt]
    constructor
    · exact Or.inl
    · rintro (h1 | ⟨h1, -⟩)
      · exact h1
      · exact absurd h1.symm h
theorem entC_zero (a b : Ent) : entC a b = 0 ↔ a = b := by
  rw [entC_eq]
  by_cases h : a.k.toList = b.k.toList
  · simp only [h, beq_self_eq_true, if_true, stE_zero]
    constructor
    · rintro ⟨h1, h2, h3⟩
      obtain ⟨ak, ap, al, ah⟩ := a
      obtain ⟨bk, bp, bl, bh⟩ := b
      simp only at h h1 h2 h3
      rw [bytes_ext h, h1, h2, h3]
    · rintro rfl; exact ⟨rfl, rfl, rfl⟩
  · have hb : (a.k.toList == b.k.toList) = false := by simpa using h
    rw [hb]
    simp only [Bool.false_eq_true, if_false, cmpS_zero]
    constructor
    · intro h1; exact absurd h1 h
    · rintro rfl; rfl
theorem entC_trans {a b c : Ent} (h1 : entC a b < 0) (h2 : entC b c < 0) : entC a c < 0 := by
  rw [entC_lt] at h1 h2 ⊢
  rcases h1 with h1 | ⟨e1, h1⟩
  · rcases h2 with h2 | ⟨e2, h2⟩
    · exact Or.inl (less_trans _ _ _ h1 h2)
    · rw [← e2]; exact Or.inl h1
  · rcases h2 with h2 | ⟨e2, h2⟩
    · rw [e1]; exact Or.inl h2
    · refine Or.inr ⟨e1.trans e2, ?_⟩
      rw [stE_lt] at h1 h2 ⊢
      omega
theorem entC_self (a : Ent) : entC a a = 0 := (entC_zero a a).2 rfl

abbrev Srt (l : List Ent) : Prop := l.Pairwise fun x y => entC x y < 0
theorem ne_of_lt {a b : Ent} (h : entC a b < 0) : a ≠ b := fun e => by rw [e, entC_self] at h; omega
theorem eqE_false {a b : Ent} (h : a ≠ b) : eqE a b = false := by
  cases e : eqE a b with
  | false => rfl
  | true => exact absurd ((eqE_iff a b).1 e) h
theorem eqE_self (a : Ent) : eqE a a = true := (eqE_iff a a).2 rfl
theorem hasE_false {l : List Ent} {x : Ent} (h : ∀ z ∈ l, x ≠ z) : hasE l x = false := by
  unfold hasE
  rw [List.any_eq_false]
  intro z hz
  rw [eqE_false (h z hz)]
  simp
theorem lessF_skip {l b : List Ent} {x : Ent} {q : Bool} (h : ∀ z ∈ l, z ≠ x) : lessF l (x :: b) q = lessF l b q := by
  unfold lessF
  refine List.filter_congr fun z hz => ?_
  unfold hasE
  rw [List.any_cons, eqE_false (h z hz), Bool.false_or]
theorem lessF_cons {l b : List Ent} {x : Ent} {q p : Bool} (h : hasE b x = p) : lessF (x :: l) b q = if p = q then x :: lessF l b q else lessF l b q := by
  unfold lessF
  rw [List.filter_cons, h]
  cases p <;> cases q <;> rfl
theorem walkF_eq (a b : List Ent) : Srt a → Srt b → walkF a b = (lessF a b false, lessF b a false, lessF a b true) := by
  induction a, b using walkF.induct with
  | case1 => intro _ _; rw [walkF]; rfl
  | case2 x a ih =>
    intro ha hb
    rw [walkF, ih (List.Pairwise.of_cons ha) hb, lessF_cons (p := false) rfl, lessF_cons (p := false) rfl]
    rfl
  | case3 y b ih =>
    intro ha hb
    rw [walkF, ih ha (List.Pairwise.of_cons hb), lessF_cons (l := b) (p := false) rfl]
    rfl
  | case4 x a y b hc ih =>
    intro ha hb
    have hb2 := List.pairwise_cons.1 hb
    have hx : ∀ z ∈ y :: b, entC x z < 0 := by
      intro z hz
      rcases List.mem_cons.1 hz with rfl | hz
      · exact hc
      · exact entC_trans hc (hb2.1 z hz)
    rw [walkF, if_pos hc, ih (List.Pairwise.of_cons ha) hb, lessF_cons (p := false) (hasE_false fun z hz => ne_of_lt (hx z hz)), lessF_cons (p := false) (hasE_false fun z hz => ne_of_lt (hx z hz)), lessF_skip (l := y :: b) (b := a) (x := x) fun z hz => (ne_of_lt (hx z hz)).symm]
    rfl
  | case5 x a y b hc1 hc ih =>
    intro ha hb
    have hc2 := (entC_gt x y).1 hc
    have ha2 := List.pairwise_cons.1 ha
    have hy : ∀ z ∈ x :: a, entC y z < 0 := by
      intro z hz
      rcases List.mem_cons.1 hz with rfl | hz
      · exact hc2
      · exact entC_trans hc2 (ha2.1 z hz)
    rw [walkF, if_neg hc1, if_pos hc, ih ha (List.Pairwise.of_cons hb), lessF_cons (l := b) (p := false) (hasE_false fun z hz => ne_of_lt (hy z hz)), lessF_skip (l := x :: a) (b := b) (x := y) fun z hz => (ne_of_lt (hy z hz)).symm, lessF_skip (l := x :: a) (b := b) (x := y) fun z hz => (ne_of_lt (hy z hz)).symm]
    rfl
  | case6 x a y b hc1 hc2 ih =>
    intro ha hb
    obtain rfl : x = y := (entC_zero x y).1 (by omega)
    have ha2 := List.pairwise_cons.1 ha
    have hb2 := List.pairwise_cons.1 hb
    have h1 : hasE (x :: b) x = true := by unfold hasE; rw [List.any_cons, eqE_self]; rfl
    have h2 : hasE (x :: a) x = true := by unfold hasE; rw [List.any_cons, eqE_self]; rfl
    rw [walkF, if_neg hc1, if_neg hc2, ih ha2.2 hb2.2, lessF_cons h1, lessF_cons h1, lessF_cons h2, lessF_skip (l := a) (b := b) (x := x) fun z hz => (ne_of_lt (ha2.1 z hz)).symm, lessF_skip (l := a) (b := b) (x := x) fun z hz => (ne_of_lt (ha2.1 z hz)).symm, lessF_skip (l := b) (b := a) (x := x) fun z hz => (ne_of_lt (hb2.1 z hz)).symm]
    rfl

theorem putG_true (e : Ent) (l : List Ent) : putG e true l = l.filter fun z => !eqE z e := by
  induction l with
  | nil => rfl
  | cons x t ih =>
    simp only [putG, Bool.not_true, Bool.false_and, Bool.or_false, Bool.false_eq_true, if_false, List.nil_append, List.filter_cons, ih]
    cases eqE x e <;> rfl
theorem putG_mem (e : Ent) (l : List Ent) : ∀ z ∈ putG e false l, z = e ∨ z ∈ l := by
  induction l with
  | nil => intro z hz; simp [putG] at hz; exact Or.inl hz
  | cons x t ih =>
    intro z hz
    simp only [putG, Bool.not_false, Bool.true_and, Bool.false_or, List.mem_append] at hz
    rcases hz with hz | hz | hz
    · split at hz
      · simp at hz; exact Or.inl hz
      · simp at hz
    · split at hz
      · simp at hz
      · simp at hz; exact Or.inr (by simp [hz])
    · cases hd : decide (entC e x ≤ 0)
      · rw [hd] at hz
        rcases ih z hz with h | h
        · exact Or.inl h
        · exact Or.inr (List.mem_cons_of_mem _ h)
      · rw [hd, putG_true] at hz
        exact Or.inr (List.mem_cons_of_mem _ (List.mem_filter.1 hz).1)
theorem putG_srt (e : Ent) (l : List Ent) : Srt l → Srt (putG e false l) := by
  induction l with
  | nil => intro _; simp [putG]
  | cons x t ih =>
    intro h
    have h2 := List.pairwise_cons.1 h
    cases hd : decide (entC e x ≤ 0)
    · have hx : entC x e < 0 := (entC_gt e x).1 (by have := of_decide_eq_false hd; omega)
      simp only [putG, hd, Bool.not_false, Bool.true_and, Bool.false_or, Bool.false_eq_true, if_false, List.nil_append, eqE_false (ne_of_lt hx)]
      refine List.pairwise_cons.2 ⟨fun z hz => ?_, ih h2.2⟩
      rcases putG_mem e t z hz with rfl | hz
      · exact hx
      · exact h2.1 z hz
    · have hx := of_decide_eq_true hd
      have hs : putG e false (x :: t) = e :: (x :: t).filter fun z => !eqE z e := by
        rw [← putG_true]
        simp only [putG, hd, Bool.not_false, Bool.true_and, Bool.false_or, if_true, Bool.not_true, Bool.false_and, Bool.or_false, Bool.false_eq_true, if_false, List.nil_append, List.cons_append]
      rw [hs]
      refine List.pairwise_cons.2 ⟨fun z hz => ?_, h.filter _⟩
      obtain ⟨hz, hn⟩ := List.mem_filter.1 hz
      have hne : z ≠ e := fun k => by rw [k, eqE_self] at hn; cases hn
      rcases List.mem_cons.1 hz with rfl | hz
      · have : entC e z ≠ 0 := fun k => hne ((entC_zero e z).1 k).symm
        omega
      · by_cases k : entC e x = 0
        · rw [(entC_zero e x).1 k]; exact h2.1 z hz
        · exact entC_trans (b := x) (by omega) (h2.1 z hz)
theorem rowF_srt (l : List Ent) : Srt (rowF l) := by
  have : ∀ acc, Srt acc → Srt (l.foldl putF acc) := by
    induction l with
    | nil => intro acc h; exact h
    | cons x l ih => intro acc h; exact ih _ (putG_srt x acc h)
  exact this [] List.Pairwise.nil
theorem putF_last (e : Ent) (l : List Ent) (h : ∀ z ∈ l, entC z e < 0) : putF l e = l ++ [e] := by
  unfold putF
  induction l with
  | nil => rfl
  | cons x t ih =>
    have hx := h x (List.mem_cons_self ..)
    have hd : decide (entC e x ≤ 0) = false := decide_eq_false (by have := (entC_gt e x).2 hx; omega)
    simp only [putG, hd, Bool.not_false, Bool.true_and, Bool.false_or, Bool.false_eq_true, if_false, List.nil_append, eqE_false (ne_of_lt hx), List.cons_append]
    rw [ih fun z hz => h z (List.mem_cons_of_mem _ hz)]
theorem rowF_of_srt (l : List Ent) (h : Srt l) : rowF l = l := by
  have : ∀ acc, Srt (acc ++ l) → l.foldl putF acc = acc ++ l := by
    clear h
    induction l with
    | nil => intro acc _; simp
    | cons x l ih =>
      intro acc h
      have h2 := List.pairwise_append.1 h
      rw [List.foldl_cons, putF_last x acc fun z hz => h2.2.2 z hz x (List.mem_cons_self ..), ih]
      · simp
      · simpa using h
  exact this [] h
theorem sortF_iff (l : List Ent) : sortF l = true ↔ Srt l := by
  induction l with
  | nil => simp [sortF]
  | cons x t ih =>
    cases t with
    | nil => simp [sortF]
    | cons y t =>
      simp only [sortF, Bool.and_eq_true, ih, Bool.not_eq_true', decide_eq_false_iff_not, Int.not_le]
      constructor
      · rintro ⟨h1, h2⟩
        refine List.pairwise_cons.2 ⟨fun z hz => ?_, h2⟩
        rcases List.mem_cons.1 hz with rfl | hz
        · exact h1
        · exact entC_trans h1 ((List.pairwise_cons.1 h2).1 z hz)
      · intro h
        have h2 := List.pairwise_cons.1 h
        exact ⟨h2.1 y (List.mem_cons_self ..), h2.2⟩
theorem row_sort (l : List Ent) : eqR (rowF l) l = sortF l := by
  cases h : sortF l
  · cases e : eqR (rowF l) l with
    | false => rfl
    | true =>
      have h1 := (eqR_iff _ _).1 e
      have h2 := rowF_srt l
      rw [h1] at h2
      rw [(sortF_iff l).2 h2] at h
      cases h
  · rw [rowF_of_srt l ((sortF_iff l).1 h), (eqR_iff l l).2 rfl]
theorem walk_rows (a b : List Ent) : walkF (rowF a) (rowF b) = (lessF (rowF a) (rowF b) false, lessF (rowF b) (rowF a) false, lessF (rowF a) (rowF b) true) := walkF_eq _ _ (rowF_srt a) (rowF_srt b)
end Go.Proofs.YtmfhmcegmeinnaaGreatDoor.Diffs
