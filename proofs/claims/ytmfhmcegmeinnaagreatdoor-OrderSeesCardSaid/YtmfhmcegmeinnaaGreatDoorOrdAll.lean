/- Nothing rises (layers 10, 29), in plain Lean: what was swept, with later mutations, shows what all that ever came shows. · What one content lacks of another one; joins of many (layers 25, 29), in plain Lean. · Answers of replicas together (layer 29), in plain Lean: nothing rises, whoever answers; what they lack, taken by them, heals them. · Stamps' maxima; rows of reports; the greatest floor (layers 4, 25). · A region that draws its order, pick by pick (for a few operations): what may come up now, and each of these as a list of one operation, what follows behind a letter. · What counts of a report, and what all have (layer 25). PRINTED by wip/gencombine.py. · Rows of replies; the greatest floor, what all have together (layer 29). PRINTED by wip/genreply.py. · Nothing rises, whoever answers (layer 29), in plain Lean: what the replies come to is what the plain law speaks of. -/
import Derived.Test.YtmfhmcegmeinnaaGreatDoorViewPlain
import Derived.Test.YtmfhmcegmeinnaaGreatDoorSweep
import Derived.Test.YtmfhmcegmeinnaaGreatDoorConKnown
import Derived.Test.YtmfhmcegmeinnaaGreatDoorSup
import Derived.StillTail
set_option linter.unusedSimpArgs false
set_option linter.unusedVariables false
namespace Go.Proofs.YtmfhmcegmeinnaaGreatDoor.Mut
open Go.Proofs.YtmfhmcegmeinnaaGreatDoor.Ord
set_option linter.unusedSectionVars false
variable [Inhabited Lim]

theorem over_lt {t : Stp} : ∀ (l : List Stp) (prev : Option Stp), overFrom t prev l = true → ∀ s ∈ l, stC s t < 0
  | [], _, _, s, hs => absurd hs (List.not_mem_nil)
  | x :: l, prev, h, s, hs => by
    unfold overFrom at h
    simp only [Bool.and_eq_true, decide_eq_true_eq] at h
    rcases List.mem_cons.1 hs with rfl | hs
    · exact h.2.1
    · exact over_lt l _ h.2.2.2 s hs
/-- What a mutation supersedes is earlier than it. -/
theorem right_overS {m : Mu} (h : rightF m = true) {s : Stp} (hs : hasS m.over s = true) : stC s m.at_ < 0 := by
  unfold rightF rightG at h
  simp only [Bool.and_eq_true] at h
  have ho := h.2.2.1
  unfold overF at ho
  rw [Bool.and_eq_true] at ho
  obtain ⟨y, hy, e⟩ := List.any_eq_true.1 hs
  have e' : y = s := (eqT_iff _ _).1 e
  exact e' ▸ over_lt _ _ ho.1 y hy
/-- What hides a mutation is no earlier. -/
theorem hidden_at {m y : Mu} (hy : rightF y = true) (h : hiddenB m y = true) : stC m.at_ y.at_ ≤ 0 := by
  unfold hiddenB at h
  rw [Bool.and_eq_true] at h
  by_cases h2 : m.table = 2
  · rw [if_pos h2, Bool.and_eq_true] at h
    have := right_overS hy h.2.2
    omega
  · rw [if_neg h2] at h
    by_cases h3 : y.kind = 3
    · rw [if_pos h3] at h
      have := ((hits_iff _ _ _).2 h.2).2
      omega
    · rw [if_neg h3, Bool.and_eq_true, decide_eq_true_eq] at h
      exact muC_at (Int.le_of_lt (of_decide_eq_true h.2.2))
/-- What is hidden by one that came is hidden by one that is left, no earlier. -/
theorem hidden_left {l : List Mu} {m y : Mu} (hm : rightF m = true) (hy : Fits l y) (h : hiddenB m y = true) : ∃ z, z ∈ (leftOf l).all ∧ hiddenB m z = true ∧ stC y.at_ z.at_ ≤ 0 := by
  have hR := (leftOf_both l).1
  have h0 := h
  unfold hiddenB at h
  rw [Bool.and_eq_true, decide_eq_true_eq] at h
  obtain ⟨ht, h⟩ := h
  by_cases h2 : m.table = 2
  · exact ⟨y, Con.mem_all.2 (Or.inr (Or.inr ((hR.sibs y).2 ⟨hy, show y.table = 2 from ht.symm.trans h2⟩))), h0, by rw [stO.self]; omega⟩
  · have hy2 : ¬ y.table = 2 := fun e => h2 (ht.trans e)
    have hm1 : m.table = 1 := (right_table hm).resolve_right h2
    rw [if_neg h2] at h
    by_cases h3 : y.kind = 3
    · rw [if_pos h3] at h
      have hh := (hits_iff _ _ _).2 h
      obtain ⟨z, hz, hw⟩ := hR.domW y hy ⟨hy2, h3⟩
      obtain ⟨sz, wz⟩ := hR.wipes z hz
      have hzy : stC y.at_ z.at_ ≤ 0 := (stO.le_of).1 hw.2.2
      have hhz : hits z m.key m.at_ := ⟨⟨wz.2, Tot.str.le_le hw.1 hh.1.2.1, Tot.str.lt_le hh.1.2.2 hw.2.1⟩, stO.lt_le hh.2 hzy⟩
      refine ⟨z, Con.mem_all.2 (Or.inr (Or.inl hz)), ?_, hzy⟩
      unfold hiddenB
      rw [if_neg h2, if_pos wz.2, (hits_iff _ _ _).1 hhz, hm1, (((fit_of sz.2)).wipe wz.2).1]
      rfl
    · rw [if_neg h3, Bool.and_eq_true, key_beq, decide_eq_true_eq] at h
      obtain ⟨hk, hlt⟩ := h
      rcases hR.domC y hy ⟨hy2, h3⟩ with ⟨z, hz, ek, hle⟩ | ⟨z, hz, hh⟩
      · obtain ⟨sz, cz⟩ := hR.cells z hz
        refine ⟨z, Con.mem_all.2 (Or.inl hz), ?_, muC_at hle⟩
        unfold hiddenB
        rw [if_neg h2, if_neg cz.2, (key_beq (a := z.key) (b := m.key)).2 (ek.trans hk), decide_eq_true (muO.lt_le hlt hle), hm1, (right_table sz.2).resolve_right cz.1]
        rfl
      · obtain ⟨sz, wz⟩ := hR.wipes z hz
        have hat : stC m.at_ y.at_ ≤ 0 := muC_at (Int.le_of_lt hlt)
        rw [hk] at hh
        have hhz : hits z m.key m.at_ := ⟨hh.1, stO.le_lt hat hh.2⟩
        refine ⟨z, Con.mem_all.2 (Or.inr (Or.inl hz)), ?_, Int.le_of_lt hh.2⟩
        unfold hiddenB
        rw [if_neg h2, if_pos wz.2, (hits_iff _ _ _).1 hhz, hm1, (((fit_of sz.2)).wipe wz.2).1]
        rfl
def sweepC (c : Con) (s : Stp) : Con := c.filter fun m => !deadF c s m
theorem mem_sweepC {c : Con} {s : Stp} {m : Mu} : m ∈ (sweepC c s).all ↔ m ∈ c.all ∧ deadF c s m = false := by
  unfold sweepC
  rw [Con.mem_filter, Bool.not_eq_true']
theorem live_later {c : Con} {s : Stp} {m : Mu} (h : stC s m.at_ < 0) : deadF c s m = false := by
  unfold deadF
  rw [decide_eq_true h]
  rfl
/-- A value that one sees at a tick from the floor's on isn't expired at the floor. -/
theorem seen_fresh {m : Mu} {phys t : Int} (h : seenB m phys = true) (ht : t ≤ phys) : m.kind = 1 ∧ expF m t = false := by
  unfold seenB at h
  rw [Bool.and_eq_true, decide_eq_true_eq, Bool.or_eq_true, decide_eq_true_eq, decide_eq_true_eq] at h
  refine ⟨h.1, ?_⟩
  unfold expF
  cases e : decide (m.kind = 1) && (decide (0 < m.expiry) && decide (m.expiry ≤ t)) with
  | false => rfl
  | true =>
    rw [Bool.and_eq_true, Bool.and_eq_true, decide_eq_true_eq, decide_eq_true_eq, decide_eq_true_eq] at e
    omega
theorem st_p {a b : Stp} (h : ¬ stC b a < 0) : a.p ≤ b.p := by
  apply Int.not_lt.1
  intro hp
  apply h
  have e : cmpI b.p a.p = -1 := by unfold cmpI; rw [if_pos hp]
  unfold stC
  simp only [orL, e]
  rw [if_neg (by decide)]
  decide
/-- What one sees stays behind a sweep that knows no more than all that came. -/
theorem stays {c : Con} {s : Stp} {m : Mu} {phys : Int} (hs : seenB m phys = true) (hp : s.p ≤ phys) (hsup : m.table = 2 → supF c m.key m.at_ = false) : deadF c s m = false := by
  obtain ⟨hk, he⟩ := seen_fresh hs hp
  unfold deadF
  rw [he, decide_eq_true hk]
  by_cases h2 : m.table = 2
  · rw [hsup h2]; simp
  · rw [decide_eq_false h2]; simp
theorem sup_mono {c : Con} {p : Mu → Bool} {key : ByteArray} {s : Stp} (h : supF c key s = false) : supF (c.filter p) key s = false := by
  unfold supF at *
  rw [List.any_eq_false] at *
  intro y hy
  exact h y (List.mem_filter.1 hy).1
theorem mem_shown {c : Con} {t phys : Int} {m : Mu} (h : m ∈ shownF c t phys) : m ∈ c.all := by
  unfold shownF liveF at h
  have h1 := (List.mem_filter.1 h).1
  split at h1
  · exact Con.mem_all.2 (Or.inr (Or.inr (List.mem_filter.1 h1).1))
  · exact Con.mem_all.2 (Or.inl (List.mem_filter.1 h1).1)
/-- NOTHING RISES. -/
theorem sweep_keeps (l later : List Mu) (first floor : Stp) (t phys : Int) (hf : ¬ stC floor first < 0) (hp : floor.p ≤ phys) (hl : ∀ m ∈ later, stC floor m.at_ < 0) :
    shownF (leftOf ((sweepC (sweepC (leftOf l) first) floor).all ++ later)) t phys = shownF (leftOf (l ++ later)) t phys := by
  have hR := (leftOf_both l).1
  have hfp : first.p ≤ floor.p := st_p hf
  have hfl : stC first floor ≤ 0 := (stO.le_of).1 hf
  have inl : ∀ {m}, m ∈ (sweepC (sweepC (leftOf l) first) floor).all → Fits l m := fun hm => by
    have h1 := (mem_sweepC.1 (mem_sweepC.1 hm).1).1
    exact hR.in_all h1
  refine shown_same fun m => ?_
  constructor
  · rintro ⟨hm, h1, h2, h3⟩
    have hm' : Fits (l ++ later) m := by
      rw [fits_append] at hm ⊢
      exact hm.imp (fun g => inl g.1) id
    refine ⟨hm', h1, h2, fun y0 hy0 => ?_⟩
    cases e : hiddenB m y0 with
    | false => rfl
    | true =>
      exfalso
      rcases (fits_append y0).1 hy0 with hy | hy
      · obtain ⟨y, hy1, hy2, hy3⟩ := hidden_left hm.2 hy e
        have hyl : Fits l y := hR.in_all hy1
        by_cases hs : y ∈ (sweepC (sweepC (leftOf l) first) floor).all
        · have := h3 y ((fits_append y).2 (Or.inl ⟨hs, hyl.2⟩))
          rw [hy2] at this; exact absurd this (by decide)
        · -- y was swept
          have hyat : stC y.at_ floor ≤ 0 := by
            by_cases hd1 : deadF (leftOf l) first y = true
            · have : ¬ stC first y.at_ < 0 := fun g => by rw [live_later g] at hd1; cases hd1
              exact stO.le_le ((stO.le_of).1 this) hfl
            · by_cases hd2 : deadF (sweepC (leftOf l) first) floor y = true
              · have : ¬ stC floor y.at_ < 0 := fun g => by rw [live_later g] at hd2; cases hd2
                exact (stO.le_of).1 this
              · exact absurd (mem_sweepC.2 ⟨mem_sweepC.2 ⟨hy1, by simpa using hd1⟩, by simpa using hd2⟩) hs
          have hmat : stC m.at_ floor ≤ 0 := stO.le_le (hidden_at hyl.2 hy2) hyat
          have hmk : m ∈ (sweepC (sweepC (leftOf l) first) floor).all := by
            rcases List.mem_append.1 hm.1 with g | g
            · exact g
            · have := hl m g
              have := (stO.swap floor m.at_).1 this
              omega
          have hmd := mem_sweepC.1 hmk
          have hmd1 := mem_sweepC.1 hmd.1
          by_cases h22 : m.table = 2
          · -- superseded: it would have been swept together with y, or ahead of it
            have e2 := hy2
            unfold hiddenB at e2
            rw [Bool.and_eq_true, decide_eq_true_eq, if_pos h22, Bool.and_eq_true] at e2
            have hyt : y.table = 2 := e2.1 ▸ h22
            have hlt : stC m.at_ y.at_ < 0 := right_overS hyl.2 e2.2.2
            have dead_of : ∀ (c : Con) (s : Stp), y ∈ c.sibs → ¬ stC s y.at_ < 0 → deadF c s m = true := fun c s hyc hs' => by
              have hms : ¬ stC s m.at_ < 0 := fun g => hs' (stO.trans _ _ _ g hlt)
              have hsup : supF c m.key m.at_ = true := List.any_eq_true.2 ⟨y, hyc, by unfold supM; rw [Bool.and_eq_true]; exact e2.2⟩
              unfold deadF
              rw [decide_eq_false hms, decide_eq_true h22, hsup]
              simp
            have hysib : y ∈ (leftOf l).sibs := (hR.sibs y).2 ⟨hyl, hyt⟩
            by_cases hd1 : deadF (leftOf l) first y = true
            · have g : ¬ stC first y.at_ < 0 := fun g => by rw [live_later g] at hd1; cases hd1
              have := dead_of _ _ hysib g
              rw [hmd1.2] at this; cases this
            · have hy1c : y ∈ (sweepC (leftOf l) first).sibs := List.mem_filter.2 ⟨hysib, by simpa using hd1⟩
              have g : ¬ stC floor y.at_ < 0 := fun g => by have := (stO.swap floor y.at_).1 g; omega
              have := dead_of _ _ hy1c g
              rw [hmd.2] at this; cases this
          · -- it is a cell that is left: nothing hides it
            have hmsh : m ∈ shownF (leftOf l) t phys := by
              have hmc : m ∈ (leftOf l).cells := by
                rcases Con.mem_all.1 hmd1.1 with g | g | g
                · exact g
                · have := (hR.wipes m g).2.2
                  have := (seen_fresh h2 (Int.le_refl phys)).1
                  omega
                · exact absurd ((hR.sibs m).1 g).2 h22
              unfold shownF liveF
              rw [if_neg (by rw [← h1]; exact h22)]
              exact List.mem_filter.2 ⟨List.mem_filter.2 ⟨hmc, decide_eq_true h1⟩, h2⟩
            have := ((shown_iff l t phys m).1 hmsh).2.2.2 y hyl
            rw [hy2] at this; cases this
      · have := h3 y0 ((fits_append y0).2 (Or.inr hy))
        rw [e] at this; cases this
  · rintro ⟨hm, h1, h2, h3⟩
    refine ⟨?_, h1, h2, fun y hy => ?_⟩
    · rw [fits_append] at hm ⊢
      rcases hm with hm | hm
      · left
        have hsh : m ∈ shownF (leftOf l) t phys := (shown_iff l t phys m).2 ⟨hm, h1, h2, fun y hy => h3 y ((fits_append y).2 (Or.inl hy))⟩
        have hsup : m.table = 2 → supF (leftOf l) m.key m.at_ = false := fun h22 => by
          cases e : supF (leftOf l) m.key m.at_ with
          | false => rfl
          | true =>
            obtain ⟨y, hy, e1, e2, e3⟩ := (sup_iff _ _ _).1 e
            have := h3 y ((fits_append y).2 (Or.inl hy))
            unfold hiddenB at this
            rw [if_pos h22, h22, e1, (key_beq (a := y.key) (b := m.key)).2 e2, e3] at this
            exact absurd this (by decide)
        refine ⟨mem_sweepC.2 ⟨mem_sweepC.2 ⟨mem_shown hsh, stays h2 (by omega) hsup⟩, stays h2 hp fun h22 => sup_mono (hsup h22)⟩, hm.2⟩
      · exact Or.inr hm
    · rw [fits_append] at hy
      exact h3 y ((fits_append y).2 (hy.imp (fun g => inl g.1) id))
end Go.Proofs.YtmfhmcegmeinnaaGreatDoor.Mut

namespace Go.Proofs.YtmfhmcegmeinnaaGreatDoor.Mut
open Go.Proofs.YtmfhmcegmeinnaaGreatDoor.Ord
set_option linter.unusedSectionVars false
variable [Inhabited Lim]

/-- Are two contents the same? -/
def conB (c d : Con) : Bool := eqF c.cells d.cells && (eqF c.wipes d.wipes && eqF c.sibs d.sibs)
theorem conB_iff (c d : Con) : conB c d = true ↔ c = d := by
  unfold conB
  rw [Bool.and_eq_true, Bool.and_eq_true, eqF_iff, eqF_iff, eqF_iff]
  constructor
  · rintro ⟨h1, h2, h3⟩
    cases c
    cases d
    simp only at h1 h2 h3
    rw [h1, h2, h3]
  · rintro rfl
    exact ⟨rfl, rfl, rfl⟩
/-- What is in one content and adds something to another one. -/
def missF (x y : Con) : List Mu := (allF x).filter fun m => !conB (addC y m) y
theorem mem_missF {x y : Con} {m : Mu} : m ∈ missF x y ↔ m ∈ x.all ∧ ¬ addC y m = y := by
  unfold missF
  rw [List.mem_filter, mem_allF, Bool.not_eq_true', ← Bool.not_eq_true, conB_iff]
theorem foldl_addC (k l : List Mu) : l.foldl addC (leftOf k) = leftOf (k ++ l) := by
  induction l generalizing k with
  | nil => rw [List.append_nil]; rfl
  | cons m l ih =>
    rw [List.foldl_cons, addC_left, ih, List.append_assoc]
    rfl
theorem fold_good {c : Con} {n : Nat} (h : Good c n) (l : List Mu) : l.foldl addC c = leftOf (c.all ++ l) := by
  conv => lhs; rw [← h.left]
  exact foldl_addC _ _
/-- What adds nothing to a content adds nothing to that and more. -/
theorem adds_nothing {y : Con} {m : Mu} (h : addC y m = y) (l : List Mu) : leftOf (y.all ++ l ++ [m]) = leftOf (y.all ++ l) := by
  have e : leftOf (y.all ++ l ++ [m]) = leftOf ((y.all ++ [m]) ++ l) := leftOf_congr fun u => by
    simp only [fits_append]
    exact ⟨fun g => g.elim (fun g => g.elim (fun g => Or.inl (Or.inl g)) Or.inr) (fun g => Or.inl (Or.inr g)), fun g => g.elim (fun g => g.elim (fun g => Or.inl (Or.inl g)) Or.inr) (fun g => Or.inl (Or.inr g))⟩
  rw [e, ← leftOf_swallow]
  have h2 : leftOf (y.all ++ [m]) = y := h
  rw [h2]
theorem miss_done {x y : Con} {m : Mu} (hm : m ∈ x.all) : addC (leftOf (y.all ++ missF x y)) m = leftOf (y.all ++ missF x y) := by
  rw [addC_left]
  by_cases h : addC y m = y
  · exact adds_nothing h _
  · have hin : m ∈ missF x y := mem_missF.2 ⟨hm, h⟩
    refine leftOf_congr fun u => ?_
    rw [fits_append]
    unfold Fits
    rw [List.mem_singleton]
    constructor
    · rintro (g | ⟨rfl, g⟩)
      · exact g
      · exact ⟨List.mem_append.2 (Or.inr hin), g⟩
    · exact Or.inl
/-- With what it lacks a content has all of the other one. -/
theorem miss_none (x y : Con) : missF x (leftOf (y.all ++ missF x y)) = [] := by
  apply List.eq_nil_iff_forall_not_mem.2
  intro m hm
  exact (mem_missF.1 hm).2 (miss_done (mem_missF.1 hm).1)
/-- Rows that add nothing may be left out. -/
theorem add_all {y : Con} (h : List Mu) (hs : ∀ m ∈ h, addC y m = y) (l : List Mu) : leftOf (y.all ++ l ++ h) = leftOf (y.all ++ l) := by
  induction h with
  | nil => rw [List.append_nil]
  | cons m h ih =>
    have e : leftOf (y.all ++ l ++ (m :: h)) = leftOf (y.all ++ (l ++ h) ++ [m]) := leftOf_congr fun u => by
      rw [show m :: h = [m] ++ h from rfl]
      simp only [fits_append]
      constructor
      · rintro ((g | g) | g | g)
        · exact Or.inl (Or.inl g)
        · exact Or.inl (Or.inr (Or.inl g))
        · exact Or.inr g
        · exact Or.inl (Or.inr (Or.inr g))
      · rintro ((g | g | g) | g)
        · exact Or.inl (Or.inl g)
        · exact Or.inl (Or.inr g)
        · exact Or.inr (Or.inr g)
        · exact Or.inr (Or.inl g)
    rw [e, adds_nothing (hs m (List.mem_cons_self ..)), ← List.append_assoc, ih fun m hm => hs m (List.mem_cons_of_mem _ hm)]
theorem miss_join (x y : Con) : leftOf (y.all ++ missF x y) = joinC y x := by
  have h1 := add_all (y := y) ((allF x).filter fun m => conB (addC y m) y) (fun m hm => (conB_iff _ _).1 (List.mem_filter.1 hm).2) (missF x y)
  rw [← h1]
  unfold joinC
  refine leftOf_congr fun u => ?_
  have key : ∀ u, u ∈ x.all ↔ u ∈ missF x y ∨ u ∈ (allF x).filter fun m => conB (addC y m) y := fun u => by
    rw [mem_missF, List.mem_filter, mem_allF, conB_iff]
    constructor
    · intro h
      by_cases g : addC y u = y
      · exact Or.inr ⟨h, g⟩
      · exact Or.inl ⟨h, g⟩
    · exact fun h => h.elim (fun g => g.1) (fun g => g.1)
  unfold Fits
  rw [List.mem_append, List.mem_append, List.mem_append, key u, or_assoc]

/-! ## Joins of many -/
theorem joinC_fold (k : List Mu) (l : List Con) : l.foldl joinC (leftOf k) = leftOf (k ++ l.flatMap Con.all) := by
  induction l generalizing k with
  | nil => rw [List.flatMap_nil, List.append_nil]; rfl
  | cons c l ih =>
    rw [List.foldl_cons, List.flatMap_cons, ← List.append_assoc, ← ih]
    unfold joinC
    rw [leftOf_swallow]
theorem empty_left : leftOf [] = ⟨[], [], []⟩ := by rfl
theorem join_many (l : List Con) : l.foldl joinC ⟨[], [], []⟩ = leftOf (l.flatMap Con.all) := by
  rw [← empty_left, joinC_fold, List.nil_append]
theorem join_perm {l k : List Con} (h : l.Perm k) : l.foldl joinC ⟨[], [], []⟩ = k.foldl joinC ⟨[], [], []⟩ := by
  rw [join_many, join_many]
  refine leftOf_congr fun u => ?_
  unfold Fits
  rw [List.mem_flatMap, List.mem_flatMap]
  exact and_congr_left fun _ => ⟨fun ⟨c, h1, h2⟩ => ⟨c, h.mem_iff.1 h1, h2⟩, fun ⟨c, h1, h2⟩ => ⟨c, h.mem_iff.2 h1, h2⟩⟩
theorem join_good : ∀ (l : List Con) (c : Con) (n k : Nat), Good c n → (∀ d ∈ l, Good d k) → Good (l.foldl joinC c) (n + k * l.length)
  | [], c, n, k, h, _ => by simpa using h
  | d :: l, c, n, k, h, g => by
    have := join_good l (joinC c d) (n + k) k (joinC_good h (g d (List.mem_cons_self ..))) fun e he => g e (List.mem_cons_of_mem _ he)
    refine this.more ?_
    rw [List.length_cons, Nat.mul_add]
    omega
end Go.Proofs.YtmfhmcegmeinnaaGreatDoor.Mut

namespace Go.Proofs.YtmfhmcegmeinnaaGreatDoor.Mut
open Go.Proofs.YtmfhmcegmeinnaaGreatDoor.Ord
set_option linter.unusedSectionVars false
variable [Inhabited Lim]

/-- What a replica tells: it has swept or not, and took these above the floor. -/
structure Qr where
  swept : Bool
  above : List Mu
def partQ (L : List Mu) (floor : Stp) (q : Qr) : Con :=
  if q.swept then sweepC (leftOf (L ++ q.above)) floor else (leftOf (L ++ q.above)).filter fun m => decide (stC floor m.at_ < 0)
def allQ (L : List Mu) (l : List Qr) : List Mu := L ++ l.flatMap Qr.above
theorem mem_allQ {L : List Mu} {l : List Qr} {m : Mu} : m ∈ allQ L l ↔ m ∈ L ∨ ∃ q ∈ l, m ∈ q.above := by
  unfold allQ
  rw [List.mem_append, List.mem_flatMap]
theorem part_sub {L : List Mu} {floor : Stp} {q : Qr} {m : Mu} (h : m ∈ (partQ L floor q).all) : m ∈ (leftOf (L ++ q.above)).all := by
  unfold partQ at h
  split at h
  · exact (mem_sweepC.1 h).1
  · exact (Con.mem_filter.1 h).1
theorem part_above {L : List Mu} {floor : Stp} {q : Qr} {m : Mu} (h : m ∈ (leftOf (L ++ q.above)).all) (hat : stC floor m.at_ < 0) : m ∈ (partQ L floor q).all := by
  unfold partQ
  split
  · exact mem_sweepC.2 ⟨h, live_later hat⟩
  · exact Con.mem_filter.2 ⟨h, decide_eq_true hat⟩
/-- NOTHING RISES, WHOEVER ANSWERS. -/
theorem order_sees (L : List Mu) (l : List Qr) (floor : Stp) (t phys : Int) (hp : floor.p ≤ phys) (hL : ∀ m ∈ L, ¬ stC floor m.at_ < 0) (hl : ∀ q ∈ l, ∀ m ∈ q.above, stC floor m.at_ < 0) (hs : ∃ q ∈ l, q.swept = true) :
    shownF (leftOf (l.flatMap fun q => (partQ L floor q).all)) t phys = shownF (leftOf (allQ L l)) t phys := by
  have inl : ∀ {q : Qr} {m : Mu}, q ∈ l → Fits (L ++ q.above) m → Fits (allQ L l) m := fun {q m} hq hm =>
    ⟨mem_allQ.2 ((List.mem_append.1 hm.1).imp id fun g => ⟨q, hq, g⟩), hm.2⟩
  have ins : ∀ {m : Mu}, Fits (l.flatMap fun q => (partQ L floor q).all) m → ∃ q ∈ l, m ∈ (partQ L floor q).all ∧ Fits (L ++ q.above) m := fun {m} hm => by
    obtain ⟨q, hq, h⟩ := List.mem_flatMap.1 hm.1
    exact ⟨q, hq, h, (leftOf_both _).1.in_all (part_sub h)⟩
  refine shown_same fun m => ?_
  constructor
  · rintro ⟨hm, h1, h2, h3⟩
    obtain ⟨q, hq, hmq, hfit⟩ := ins hm
    refine ⟨inl hq hfit, h1, h2, fun y0 hy0 => ?_⟩
    cases e : hiddenB m y0 with
    | false => rfl
    | true =>
      exfalso
      -- whoever has it: a row that holds it
      obtain ⟨r, hr, hyr⟩ : ∃ r ∈ l, Fits (L ++ r.above) y0 := by
        rcases mem_allQ.1 hy0.1 with g | ⟨r, hr, g⟩
        · exact ⟨q, hq, List.mem_append.2 (Or.inl g), hy0.2⟩
        · exact ⟨r, hr, List.mem_append.2 (Or.inr g), hy0.2⟩
      obtain ⟨y, hy1, hy2, hy3⟩ := hidden_left hm.2 hyr e
      have hyf : Fits (L ++ r.above) y := (leftOf_both _).1.in_all hy1
      by_cases hat : stC floor y.at_ < 0
      · have := h3 y ⟨List.mem_flatMap.2 ⟨r, hr, part_above hy1 hat⟩, hyf.2⟩
        rw [hy2] at this; cases this
      · have hyat : stC y.at_ floor ≤ 0 := (stO.le_of).1 hat
        have hyL : y ∈ L := by
          rcases List.mem_append.1 hyf.1 with g | g
          · exact g
          · exact absurd (hl r hr y g) hat
        have hyq : Fits (L ++ q.above) y := ⟨List.mem_append.2 (Or.inl hyL), hyf.2⟩
        have hmat : stC m.at_ floor ≤ 0 := stO.le_le (hidden_at hyf.2 hy2) hyat
        have hmn : ¬ stC floor m.at_ < 0 := fun g => by have := (stO.swap floor m.at_).1 g; omega
        have hsw : q.swept = true := by
          cases hq2 : q.swept with
          | true => rfl
          | false =>
            unfold partQ at hmq
            rw [hq2] at hmq
            have := (Con.mem_filter.1 hmq).2
            exact absurd (of_decide_eq_true this) hmn
        unfold partQ at hmq
        rw [hsw, if_pos rfl] at hmq
        obtain ⟨hmc, hmd⟩ := mem_sweepC.1 hmq
        have hR := (leftOf_both (L ++ q.above)).1
        by_cases h22 : m.table = 2
        · have e2 := hy2
          unfold hiddenB at e2
          rw [Bool.and_eq_true, decide_eq_true_eq, if_pos h22, Bool.and_eq_true] at e2
          have hyt : y.table = 2 := e2.1.symm.trans h22
          have hysib : y ∈ (leftOf (L ++ q.above)).sibs := (hR.sibs y).2 ⟨hyq, hyt⟩
          have hsup : supF (leftOf (L ++ q.above)) m.key m.at_ = true := List.any_eq_true.2 ⟨y, hysib, by unfold supM; rw [Bool.and_eq_true]; exact e2.2⟩
          unfold deadF at hmd
          rw [decide_eq_false hmn, decide_eq_true h22, hsup] at hmd
          simp at hmd
        · have hmcell : m ∈ (leftOf (L ++ q.above)).cells := by
            rcases Con.mem_all.1 hmc with g | g | g
            · exact g
            · have h5 := (hR.wipes m g).2.2
              have h6 := (seen_fresh h2 (Int.le_refl phys)).1
              omega
            · exact absurd ((hR.sibs m).1 g).2 h22
          have hmsh : m ∈ shownF (leftOf (L ++ q.above)) t phys := by
            unfold shownF liveF
            rw [if_neg (by rw [← h1]; exact h22)]
            exact List.mem_filter.2 ⟨List.mem_filter.2 ⟨hmcell, decide_eq_true h1⟩, h2⟩
          have := ((shown_iff _ t phys m).1 hmsh).2.2.2 y hyq
          rw [hy2] at this; cases this
  · rintro ⟨hm, h1, h2, h3⟩
    have shownIn : ∀ q ∈ l, Fits (L ++ q.above) m → m ∈ shownF (leftOf (L ++ q.above)) t phys := fun q hq hf =>
      (shown_iff _ t phys m).2 ⟨hf, h1, h2, fun y hy => h3 y (inl hq hy)⟩
    refine ⟨⟨?_, hm.2⟩, h1, h2, fun y hy => ?_⟩
    · rcases mem_allQ.1 hm.1 with g | ⟨q, hq, g⟩
      · obtain ⟨q, hq, hsw⟩ := hs
        have hf : Fits (L ++ q.above) m := ⟨List.mem_append.2 (Or.inl g), hm.2⟩
        have hsh := shownIn q hq hf
        refine List.mem_flatMap.2 ⟨q, hq, ?_⟩
        unfold partQ
        rw [hsw, if_pos rfl]
        refine mem_sweepC.2 ⟨mem_shown hsh, stays h2 hp fun h22 => ?_⟩
        cases e : supF (leftOf (L ++ q.above)) m.key m.at_ with
        | false => rfl
        | true =>
          obtain ⟨y, hy, e1, e2, e3⟩ := (sup_iff _ _ _).1 e
          have := h3 y (inl hq hy)
          unfold hiddenB at this
          rw [if_pos h22, h22, e1, (key_beq (a := y.key) (b := m.key)).2 e2, e3] at this
          exact absurd this (by decide)
      · have hf : Fits (L ++ q.above) m := ⟨List.mem_append.2 (Or.inr g), hm.2⟩
        exact List.mem_flatMap.2 ⟨q, hq, part_above (mem_shown (shownIn q hq hf)) (hl q hq m g)⟩
    · obtain ⟨q, hq, -, hf⟩ := ins hy
      exact h3 y (inl hq hf)

end Go.Proofs.YtmfhmcegmeinnaaGreatDoor.Mut

namespace Go.Proofs.YtmfhmcegmeinnaaGreatDoor.Mut
open Go.RowKit Go.Sort Go.Proofs.YtmfhmcegmeinnaaGreatDoor.Ord Go.Proofs.YtmfhmcegmeinnaaGreatDoor.RegInv
set_option linter.unusedSectionVars false
variable [Inhabited Lim]

/-! ## A stamp's variable -/
structure S3 (w : World) (k : Nat) (s : Stp) : Prop where
  lt : k < w.heap.size
  c0 : w.cell? ⟨k, 0, none⟩ = some (.int .i64 s.p)
  c1 : w.cell? ⟨k, 1, none⟩ = some (.int .i64 s.l)
  c2 : w.cell? ⟨k, 2, none⟩ = some (.int .i64 s.w)
  f0 : w.frozen? ⟨k, 0, none⟩ = false
  f1 : w.frozen? ⟨k, 1, none⟩ = false
  f2 : w.frozen? ⟨k, 2, none⟩ = false
theorem S3.new (w : World) (s : Stp) : S3 (w.alloc (.cells #[.int .i64 s.p, .int .i64 s.l, .int .i64 s.w] 43)) w.heap.size s :=
  ⟨by simp, by go_simp, by go_simp, by go_simp, by go_simp, by go_simp, by go_simp⟩
theorem S3.below {w w' : World} {k : Nat} {s : Stp} (h : S3 w k s) (hb : RowKit.Below w.heap.size w w') : S3 w' k s := by
  have e : ∀ o, w'.cell? ⟨k, o, none⟩ = w.cell? ⟨k, o, none⟩ := fun o => hb.cell (p := ⟨k, o, none⟩) h.lt
  have f : ∀ o, w'.frozen? ⟨k, o, none⟩ = w.frozen? ⟨k, o, none⟩ := fun o => hb.frozen (p := ⟨k, o, none⟩) h.lt
  obtain ⟨h0, h1, h2, h3, h4, h5, h6⟩ := h
  exact ⟨Nat.lt_of_lt_of_le h0 hb.size, (e _).trans h1, (e _).trans h2, (e _).trans h3, (f _).trans h4, (f _).trans h5, (f _).trans h6⟩
theorem s3_put {w : World} {k : Nat} {s : Stp} (h : S3 w k s) (t : Stp) : S3 (((w.setCell ⟨k, 0, none⟩ (.int .i64 t.p)).setCell ⟨k, 1, none⟩ (.int .i64 t.l)).setCell ⟨k, 2, none⟩ (.int .i64 t.w)) k t := by
  obtain ⟨h0, h1, h2, h3, h4, h5, h6⟩ := h
  exact ⟨by simpa using h0, by go_simp, by go_simp, by go_simp, by go_simp, by go_simp, by go_simp⟩
theorem S3.other {w : World} {k j o : Nat} {s : Stp} {u : Value} (h : S3 w k s) (hj : j ≠ k) : S3 (w.setCell ⟨j, o, none⟩ u) k s := by
  have e : ∀ i, (w.setCell ⟨j, o, none⟩ u).cell? ⟨k, i, none⟩ = w.cell? ⟨k, i, none⟩ := fun i => World.cell?_of_block (a := ⟨k, i, none⟩) (heap_setCell_far w ⟨j, o, none⟩ u k hj)
  have f : ∀ i, (w.setCell ⟨j, o, none⟩ u).frozen? ⟨k, i, none⟩ = w.frozen? ⟨k, i, none⟩ := fun i => by
    unfold World.frozen?
    rw [heap_setCell_far w ⟨j, o, none⟩ u k hj]
  obtain ⟨h0, h1, h2, h3, h4, h5, h6⟩ := h
  exact ⟨by simpa using h0, (e _).trans h1, (e _).trans h2, (e _).trans h3, (f _).trans h4, (f _).trans h5, (f _).trans h6⟩
theorem s3_put_below {w0 w : World} {k n : Nat} (h : RowKit.Below n w0 w) (hk : n ≤ k) (a b d : Value) : RowKit.Below n w0 (((w.setCell ⟨k, 0, none⟩ a).setCell ⟨k, 1, none⟩ b).setCell ⟨k, 2, none⟩ d) :=
  ((h.setCell (p := ⟨k, 0, none⟩) hk _).setCell (p := ⟨k, 1, none⟩) hk _).setCell (p := ⟨k, 2, none⟩) hk _

def maxS (a b : Stp) : Stp := if stC a b < 0 then b else a
def zeroS : Stp := ⟨0, 0, 0⟩
/-- A known stamp comes back. -/
def RetS (s : Stp) (w : World) (e : Ending) (w' : World) : Prop := e = .returned (vS s) ∧ RowKit.Below w.heap.size w w'

set_option maxHeartbeats 2000000 in
set_option maxRecDepth 100000 in
theorem max_any (a b : Stp) (w : World) : Calls Tryz.prog 132 #[vS a, vS b] w (RetS (maxS a b) w) := by
  have HL := Lib.hid (fun W => stless_any a b W)
  obtain ⟨Q, hQ⟩ : ∃ Q, Q = decide (stC a b < 0) := ⟨_, rfl⟩
  rw [← hQ] at HL
  obtain ⟨M, hM⟩ : ∃ M, M = maxS a b := ⟨_, rfl⟩
  have HM := Lib.hid (show M = if Q = true then b else a by rw [hM, hQ]; unfold maxS; simp only [decide_eq_true_eq])
  rw [← hM]
  obtain ⟨W0, hW0⟩ : ∃ W0, W0 = ((w.alloc (.cells #[.int .i64 a.p, .int .i64 a.l, .int .i64 a.w] 43)).alloc (.cells #[.int .i64 b.p, .int .i64 b.l, .int .i64 b.w] 43)).alloc (.cells #[.int .i64 0, .int .i64 0, .int .i64 0] 43) := ⟨_, rfl⟩
  have hb0 : RowKit.Below w.heap.size w W0 := by rw [hW0]; exact (((Below.refl _ w).alloc (Nat.le_refl _) _).alloc (by simp) _).alloc (by simp; omega) _
  have hA : S3 W0 w.heap.size a := by
    rw [hW0]
    exact ((S3.new w a).below ((Below.refl _ _).alloc (Nat.le_refl _) _)).below ((Below.refl _ _).alloc (Nat.le_refl _) _)
  have hB : S3 W0 (w.heap.size + 1) b := by
    rw [hW0]
    have := S3.new (w.alloc (.cells #[.int .i64 a.p, .int .i64 a.l, .int .i64 a.w] 43)) b
    rw [World.size_alloc] at this
    exact this.below ((Below.refl _ _).alloc (Nat.le_refl _) _)
  have hT : S3 W0 (w.heap.size + 1 + 1) zeroS := by
    rw [hW0]
    have := S3.new ((w.alloc (.cells #[.int .i64 a.p, .int .i64 a.l, .int .i64 a.w] 43)).alloc (.cells #[.int .i64 b.p, .int .i64 b.l, .int .i64 b.w] 43)) zeroS
    rw [World.size_alloc, World.size_alloc] at this
    exact this
  have HA := Lib.hid hA
  have HB := Lib.hid hB
  have HT := Lib.hid hT
  have HB0 := Lib.hid hb0
  have HW := Lib.hid hW0
  clear hA hB hT hb0 hW0 hQ hM
  obtain ⟨ap, al, aw⟩ := a
  obtain ⟨bp, bl, bw⟩ := b
  unfold RetS
  unfold vS at HL ⊢
  simp only [] at HL ⊢
  go_enter Tryz.func132, Tryz.ntmps132
  go_upto_region 1 with fail
  rw [← HW.out]
  clear HW
  obtain ⟨-, a0, a1, a2, -⟩ := HA.out
  obtain ⟨-, b0, b1, b2, -⟩ := HB.out
  simp only [] at a0 a1 a2 b0 b1 b2
  go_wp2_with fail
  refine (HL.out _).mono ?_
  rintro e w1 ⟨rfl, hb⟩
  have HB1 := Lib.hid (show RowKit.Below W0.heap.size W0 w1 from hb.below)
  have HT1 := Lib.hid (HT.out.below hb.below)
  have HA1 := Lib.hid (HA.out.below hb.below)
  have HBb := Lib.hid (HB.out.below hb.below)
  clear hb a0 a1 a2 b0 b1 b2
  obtain ⟨-, a0, a1, a2, -⟩ := HA1.out
  obtain ⟨-, b0, b1, b2, -⟩ := HBb.out
  obtain ⟨-, t0, t1, t2, f0, f1, f2⟩ := HT1.out
  simp only [] at a0 a1 a2 b0 b1 b2 t0 t1 t2
  cases Q
  · go_wp2_with fail
    obtain ⟨-, u0, u1, u2, -⟩ := s3_put HT1.out ⟨ap, al, aw⟩
    simp only [] at u0 u1 u2
    refine bodyPost_ret (v := .agg #[.int .i64 ap, .int .i64 al, .int .i64 aw]) (by simp [results, Tryz.f132, go_sem, u0, u1, u2]) rfl ?_
    exact ⟨by rw [HM.out]; rfl, s3_put_below (below_then HB0.out (Nat.le_refl _) HB1.out) (by omega) _ _ _⟩
  · go_wp2_with fail
    obtain ⟨-, u0, u1, u2, -⟩ := s3_put HT1.out ⟨bp, bl, bw⟩
    simp only [] at u0 u1 u2
    refine bodyPost_ret (v := .agg #[.int .i64 bp, .int .i64 bl, .int .i64 bw]) (by simp [results, Tryz.f132, go_sem, u0, u1, u2]) rfl ?_
    exact ⟨by rw [HM.out]; rfl, s3_put_below (below_then HB0.out (Nat.le_refl _) HB1.out) (by omega) _ _ _⟩

/-! ## Rows of reports -/
structure Rp where
  a : Value
  b : Value
  d : Value
  c : Con
  f : Stp
  q : Bool
def enR (x : Rp) : List Value := [x.a, x.b, x.d, .int .i64 x.f.p, .int .i64 x.f.l, .int .i64 x.f.w, .bool x.q]
def vR (x : Rp) : Value := .agg #[x.a, x.b, x.d, .int .i64 x.f.p, .int .i64 x.f.l, .int .i64 x.f.w, .bool x.q]
theorem enR_len (x : Rp) : (enR x).length = 7 := rfl
structure RRow (w : World) (v : Value) (R : List Rp) : Prop where
  row : Lst 7 enR w v R
  con : ∀ x ∈ R, Lies w x.a x.b x.d x.c
theorem RRow.below {w w' : World} {v : Value} {R : List Rp} (h : RRow w v R) (hb : RowKit.Below w.heap.size w w') : RRow w' v R := ⟨Lst.below h.row hb, fun x hx => (h.con x hx).below hb⟩
theorem RRow.form {w : World} {v : Value} {R : List Rp} (h : RRow w v R) : ∃ ao cap, v = .slice ao R.length cap ∧ R.length ≤ cap ∧ cap ≤ maxLen := Lst.form h.row
theorem RRow.get {w : World} {ao : Option Addr} {n cap : Nat} {R : List Rp} (h : RRow w (.slice ao n cap) R) {k : Nat} (hk : k < R.length) :
    ∃ b off, ao = some ⟨b, off, none⟩ ∧ b < w.heap.size ∧ w.cell? ⟨b, off + k * 7, none⟩ = some R[k].a ∧ w.cell? ⟨b, off + k * 7 + 1, none⟩ = some R[k].b ∧ w.cell? ⟨b, off + k * 7 + 2, none⟩ = some R[k].d ∧
      w.cell? ⟨b, off + k * 7 + 3, none⟩ = some (.int .i64 R[k].f.p) ∧ w.cell? ⟨b, off + k * 7 + 4, none⟩ = some (.int .i64 R[k].f.l) ∧ w.cell? ⟨b, off + k * 7 + 5, none⟩ = some (.int .i64 R[k].f.w) ∧ w.cell? ⟨b, off + k * 7 + 6, none⟩ = some (.bool R[k].q) := by
  obtain ⟨b, off, e, h1, h2⟩ := Lst.get h.row hk
  exact ⟨b, off, e, h1, h2 0 (by omega), h2 1 (by omega), h2 2 (by omega), h2 3 (by omega), h2 4 (by omega), h2 5 (by omega), h2 6 (by omega)⟩
/-- The greatest floor of those that aren't in quarantine; is there one? -/
def baseStep (acc : Stp × Bool) (x : Rp) : Stp × Bool := if x.q then acc else (maxS acc.1 x.f, true)
def baseF (R : List Rp) : Stp × Bool := R.foldl baseStep (zeroS, false)
end Go.Proofs.YtmfhmcegmeinnaaGreatDoor.Mut

namespace Go.Proofs.YtmfhmcegmeinnaaGreatDoor.Picks
open Go

section
variable {P : Program} {ops : Array Oper} {Q : Exit → Act → World → Prop} {md : Region.Mode}
theorem wpAny_go {fuel : Nat} {listed : Array Bool} {a : Act} {w : World} (rs : List Nat) (hr : Region.ready md ops listed = rs) (hne : rs ≠ []) (h : ∀ i ∈ rs, wpOp P ops Q i (wpAny P md ops Q fuel (listed.setIfInBounds i true)) a w) :
    wpAny P md ops Q (fuel + 1) listed a w := ⟨fun h0 => absurd (hr.symm.trans h0) hne, fun i hi => h i (hr ▸ hi)⟩
theorem wpAny_end {listed : Array Bool} {a : Act} {w : World} (hr : Region.ready md ops listed = []) (h : Q .normal a w) : wpAny P md ops Q 0 listed a w := ⟨hr, h⟩
def kPost (Q : Exit → Act → World → Prop) (K : Act → World → Prop) : Exit → Act → World → Prop
  | .normal, a, w => K a w
  | e, a, w => Q e a w
theorem upon_k {o : Oper} {a : Act} {K : Act → World → Prop} (r : Result Next) (h : o.upon P a (wpList P ops (kPost Q K) []) (kPost Q K) r) : o.upon P a K Q r := by
  have out : LetsOut (kPost Q K) → LetsOut Q := fun ⟨a', w', hh⟩ => ⟨a', w', hh⟩
  cases r with
  | ok n w' =>
    cases n with
    | value v => exact h
    | skip => exact h
    | defer d => exact h
    | enter f args =>
      refine Calls.mono (show Calls P f args w' _ from h) ?_
      intro e w'' he
      cases e with
      | returned v => exact he
      | panicked c => exact he
      | outgrown => exact out he
    | row row args => exact Rows.mono (show Rows P row args w' _ from h) (fun v w'' he => he)
    | _ => exact h
  | halt x w' => cases x <;> exact h
/-- Operation i: what follows it stands behind a letter. -/
theorem wpOp_of_list {i : Nat} {o : Oper} {a : Act} {w : World} {K : Act → World → Prop} (ho : ops[i]? = some o)
    (h : ∀ K' : Exit → Act → World → Prop, (∀ a' w', K a' w' → K' .normal a' w') → (∀ e a w, e ≠ .normal → Q e a w → K' e a w) → wpList P ops K' [o] a w) : wpOp P ops Q i K a w := by
  have h1 := h (kPost Q K) (fun _ _ hk => hk) (fun e a w hne hq => by cases e <;> first | exact absurd rfl hne | exact hq)
  unfold wpOp
  simp only [ho]
  unfold wpList at h1
  split
  · rename_i hw
    rw [if_pos hw] at h1
    rcases h1 with h1 | ⟨h2, a', w', h3⟩
    · exact Or.inl (upon_k _ h1)
    · exact Or.inr ⟨h2, a', w', h3⟩
  · rename_i hw
    rw [if_neg hw] at h1
    exact h1
end
end Go.Proofs.YtmfhmcegmeinnaaGreatDoor.Picks

namespace Go.Proofs.YtmfhmcegmeinnaaGreatDoor.Mut
open Go.RowKit Go.Sort Go.Proofs.YtmfhmcegmeinnaaGreatDoor.Ord Go.Proofs.YtmfhmcegmeinnaaGreatDoor.RegInv
set_option linter.unusedSectionVars false
variable [Inhabited Lim]

/-- A variable of a zero stamp, and nothing behind it. -/
structure Z3 (w : World) (k : Nat) : Prop where
  s : S3 w k zeroS
  far : ∀ o, 3 ≤ o → w.cell? ⟨k, o, none⟩ = none
theorem Z3.new (w : World) : Z3 (w.alloc (.cells #[.int .i64 zeroS.p, .int .i64 zeroS.l, .int .i64 zeroS.w] 43)) w.heap.size := by
  refine ⟨S3.new w zeroS, fun o ho => ?_⟩
  obtain ⟨j, rfl⟩ : ∃ j, o = j + 3 := ⟨o - 3, by omega⟩
  go_simp
theorem Z3.below {w w' : World} {k : Nat} (h : Z3 w k) (hb : RowKit.Below w.heap.size w w') : Z3 w' k :=
  ⟨h.s.below hb, fun o ho => (hb.cell (p := ⟨k, o, none⟩) h.s.lt).trans (h.far o ho)⟩
theorem Z3.other {w : World} {k j o : Nat} {u : Value} (h : Z3 w k) (hj : j ≠ k) : Z3 (w.setCell ⟨j, o, none⟩ u) k :=
  ⟨h.s.other hj, fun i hi => (World.cell?_of_block (a := ⟨k, i, none⟩) (heap_setCell_far w ⟨j, o, none⟩ u k hj)).trans (h.far i hi)⟩
theorem lst_zero {α : Type} {sz : Nat} {en : α → List Value} {w : World} {v : Value} {l : List α} {k : Nat} (h : Lst sz en w v l) (hz : Z3 w k) (hl : ∀ x, (en x).length = sz) (hne : sz = 10 ∨ (sz = 3 ∧ ∀ x ∈ l, en x ≠ [.int .i64 0, .int .i64 0, .int .i64 0])) (a b d : Value) : Lst sz en (((w.setCell ⟨k, 0, none⟩ a).setCell ⟨k, 1, none⟩ b).setCell ⟨k, 2, none⟩ d) v l := by
  obtain ⟨ao, cap, e, h1, h2, h3⟩ := h
  refine ⟨ao, cap, e, h1, h2, h3.imp id ?_⟩
  rintro ⟨g, off, e1, hb, hc⟩
  refine ⟨g, off, e1, by simpa using hb, fun i x hi j hj => ?_⟩
  have hgk : g ≠ k := by
    rintro rfl
    have h5 : off + i * sz + (sz - 1) < 3 := by
      apply Decidable.byContradiction
      intro hh
      have h4 := hc i x hi (sz - 1) (by omega)
      rw [hz.far _ (by omega), List.getElem?_eq_getElem (by rw [hl]; omega)] at h4
      cases h4
    rcases hne with h | ⟨h, hx⟩
    · subst h
      omega
    · subst h
      have ho : off = 0 := by omega
      have hi0 : i = 0 := by omega
      subst ho hi0
      refine hx x (List.mem_of_getElem? hi) ?_
      have c0 := hc 0 x hi 0 (by omega)
      have c1 := hc 0 x hi 1 (by omega)
      have c2 := hc 0 x hi 2 (by omega)
      have z0 := hz.s.c0
      have z1 := hz.s.c1
      have z2 := hz.s.c2
      simp only [Nat.zero_mul, Nat.add_zero, Nat.zero_add] at c0 c1 c2
      rw [z0] at c0
      rw [z1] at c1
      rw [z2] at c2
      have hle := hl x
      generalize en x = y at c0 c1 c2 hle
      match y, hle with
      | [p, q, r], _ =>
        simp only [List.getElem?_cons_zero, List.getElem?_cons_succ, Option.some.injEq] at c0 c1 c2
        rw [← c0, ← c1, ← c2]
        rfl
  have q : ∀ m, (⟨k, m, none⟩ : Addr) ≠ ⟨g, off + i * sz + j, none⟩ := fun m e => by
    injection e with e
    exact hgk e.symm
  rw [World.cell?_setCell_other (h := q 2), World.cell?_setCell_other (h := q 1), World.cell?_setCell_other (h := q 0)]
  exact hc i x hi j hj
theorem over_right : ∀ (l : List Stp) (t : Stp) (o : Option Stp), overFrom t o l = true → ∀ s ∈ l, stR s = true
  | [], _, _, _, s, hs => by cases hs
  | x :: l, t, o, h, s, hs => by
    unfold overFrom at h
    simp only [Bool.and_eq_true] at h
    rcases List.mem_cons.1 hs with rfl | hs
    · exact h.1
    · exact over_right l t _ h.2.2.2 s hs
theorem right_over {m : Mu} (h : rightF m = true) : ∀ s ∈ m.over, stR s = true := by
  unfold rightF rightG at h
  simp only [Bool.and_eq_true] at h
  have h2 : overF m.over m.at_ = true := by simp_all
  unfold overF at h2
  simp only [Bool.and_eq_true] at h2
  exact over_right _ _ _ h2.1
theorem reads_zero {w : World} {v : Value} {l : List Mu} {k : Nat} (h : Reads w v l) (hz : Z3 w k) (hr : ∀ m ∈ l, rightF m = true) (a b d : Value) : Reads (((w.setCell ⟨k, 0, none⟩ a).setCell ⟨k, 1, none⟩ b).setCell ⟨k, 2, none⟩ d) v l := by
  obtain ⟨R, e, hR⟩ := h
  refine ⟨R, e, lst_zero hR.row hz enM_len (Or.inl rfl) a b d, fun x hx => ⟨lst_zero (hR.over x hx).lst hz enS_len (Or.inr ⟨rfl, fun s hs he => ?_⟩) a b d, (hR.over x hx).zn⟩⟩
  have h1 := right_over (hr x.1 (by rw [← e]; exact List.mem_map.2 ⟨x, hx, rfl⟩)) s hs
  unfold enS at he
  simp only [List.cons.injEq, Value.int.injEq, true_and, and_true] at he
  obtain ⟨e1, e2, e3⟩ := he
  unfold stR at h1
  simp [e1, e2, e3] at h1
theorem lies_zero {w : World} {a b d : Value} {c : Con} {n k : Nat} (h : Lies w a b d c) (hg : Good c n) (hz : Z3 w k) (u0 u1 u2 : Value) : Lies (((w.setCell ⟨k, 0, none⟩ u0).setCell ⟨k, 1, none⟩ u1).setCell ⟨k, 2, none⟩ u2) a b d c :=
  ⟨reads_zero h.cells hz (fun m hm => hg.okc.right m (by unfold Con.all; simp [hm])) u0 u1 u2, reads_zero h.wipes hz (fun m hm => hg.okc.right m (by unfold Con.all; simp [hm])) u0 u1 u2, reads_zero h.sibs hz (fun m hm => hg.okc.right m (by unfold Con.all; simp [hm])) u0 u1 u2⟩

def aboveB (s : Stp) (m : Mu) : Bool := decide (stC s m.at_ < 0)
/-- What counts of a report. -/
def countsF (x : Rp) (s : Stp) : Con := if (!x.q && eqT x.f s) = true then x.c else x.c.filter (aboveB s)
theorem countsF_good {x : Rp} {n : Nat} (h : Good x.c n) (s : Stp) : Good (countsF x s) n := by
  unfold countsF
  split
  · exact h
  · exact h.filter _

def uptoB (s : Stp) (m : Mu) : Bool := !decide (stC s m.at_ < 0)
def partR (se0 base : Stp) (x : Rp) : Con := (countsF x base).filter (uptoB se0)
def combC (R : List Rp) (se0 base : Stp) : Con := (R.map (partR se0 base)).foldl joinC ⟨[], [], []⟩
/-- What all have up to a se0, the base, and whether there is one. -/
def combF (R : List Rp) (se0 : Stp) : Con × Stp × Bool := if (baseF R).2 = true then (combC R se0 (baseF R).1, (baseF R).1, true) else (⟨[], [], []⟩, zeroS, false)
theorem partR_good {x : Rp} {n : Nat} (h : Good x.c n) (se0 base : Stp) : Good (partR se0 base x) n := (countsF_good h base).filter _
theorem empty_good : Good ⟨[], [], []⟩ 0 := ⟨Reps.none.same fun m => ⟨fun h => h.elim, fun h => by simp [Con.all] at h⟩, ⟨fun m h => by simp [Con.all] at h, Nat.le_refl _⟩⟩
/-- A content, a stamp, a truth value come back. -/
def RetCSB (c : Con) (s : Stp) (q : Bool) (w : World) (e : Ending) (w' : World) : Prop := ∃ v, e = .returned (.tuple #[v, vS s, .bool q]) ∧ IsC c v w' ∧ RowKit.Below w.heap.size w w'

end Go.Proofs.YtmfhmcegmeinnaaGreatDoor.Mut

namespace Go.Proofs.YtmfhmcegmeinnaaGreatDoor.Mut
open Go.RowKit Go.Sort Go.Proofs.YtmfhmcegmeinnaaGreatDoor.Ord Go.Proofs.YtmfhmcegmeinnaaGreatDoor.RegInv
set_option linter.unusedSectionVars false
variable [Inhabited Lim]

structure Ry where
  from_ : Int
  no : Int
  a : Value
  b : Value
  d : Value
  c : Con
  f : Stp
def enY (x : Ry) : List Value := [.int .i64 x.from_, .int .i64 x.no, x.a, x.b, x.d, .int .i64 x.f.p, .int .i64 x.f.l, .int .i64 x.f.w]
def vY (x : Ry) : Value := .agg #[.int .i64 x.from_, .int .i64 x.no, x.a, x.b, x.d, .int .i64 x.f.p, .int .i64 x.f.l, .int .i64 x.f.w]
theorem enY_len (x : Ry) : (enY x).length = 8 := rfl
structure YRow (w : World) (v : Value) (R : List Ry) : Prop where
  row : Lst 8 enY w v R
  con : ∀ x ∈ R, Lies w x.a x.b x.d x.c
theorem YRow.below {w w' : World} {v : Value} {R : List Ry} (h : YRow w v R) (hb : RowKit.Below w.heap.size w w') : YRow w' v R := ⟨Lst.below h.row hb, fun x hx => (h.con x hx).below hb⟩
theorem YRow.form {w : World} {v : Value} {R : List Ry} (h : YRow w v R) : ∃ ao cap, v = .slice ao R.length cap ∧ R.length ≤ cap ∧ cap ≤ maxLen := Lst.form h.row
theorem YRow.get {w : World} {ao : Option Addr} {n cap : Nat} {R : List Ry} (h : YRow w (.slice ao n cap) R) {k : Nat} (hk : k < R.length) :
    ∃ b off, ao = some ⟨b, off, none⟩ ∧ b < w.heap.size ∧ w.cell? ⟨b, off + k * 8, none⟩ = some (.int .i64 R[k].from_) ∧ w.cell? ⟨b, off + k * 8 + 1, none⟩ = some (.int .i64 R[k].no) ∧ w.cell? ⟨b, off + k * 8 + 2, none⟩ = some R[k].a ∧ w.cell? ⟨b, off + k * 8 + 3, none⟩ = some R[k].b ∧ w.cell? ⟨b, off + k * 8 + 4, none⟩ = some R[k].d ∧
      w.cell? ⟨b, off + k * 8 + 5, none⟩ = some (.int .i64 R[k].f.p) ∧ w.cell? ⟨b, off + k * 8 + 6, none⟩ = some (.int .i64 R[k].f.l) ∧ w.cell? ⟨b, off + k * 8 + 7, none⟩ = some (.int .i64 R[k].f.w) := by
  obtain ⟨b, off, e, h1, h2⟩ := Lst.get h.row hk
  exact ⟨b, off, e, h1, h2 0 (by omega), h2 1 (by omega), h2 2 (by omega), h2 3 (by omega), h2 4 (by omega), h2 5 (by omega), h2 6 (by omega), h2 7 (by omega)⟩
theorem neqT_run (x y : Stp) (q : Bool) (h : eqT x y = q) (w : World) : (binOp .neq 43 (.agg #[.int .i64 x.p, .int .i64 x.l, .int .i64 x.w]) (.agg #[.int .i64 y.p, .int .i64 y.l, .int .i64 y.w])).run Tryz.prog w = .ok (.bool (!q)) w := by
  rw [run_neq_struct, eqT_run, h]; rfl

/-- The greatest floor of all. -/
def floorF (R : List Ry) : Stp := R.foldl (fun s x => maxS s x.f) zeroS
set_option maxHeartbeats 4000000 in
set_option maxRecDepth 100000 in
theorem floor_any (v : Value) (R : List Ry) (w : World) (hv : YRow w v R) (hn : R.length ≤ 1000) :
    Calls Tryz.prog 70 #[v] w (RetS (floorF R) w) := by
  obtain ⟨ao, cap, rfl, -, -⟩ := hv.form
  obtain ⟨n, hN⟩ : ∃ n, n = R.length := ⟨_, rfl⟩
  rw [← hN] at hv hn ⊢
  obtain ⟨Q, hQ⟩ : ∃ Q, Q = floorF R := ⟨_, rfl⟩
  rw [← hQ]
  have HV := Lib.hid hv
  have HN := Lib.hid hN
  have HQ := Lib.hid hQ
  obtain ⟨W0, hW0⟩ : ∃ W0, W0 = (w.alloc (.cells #[.int .i64 0, .int .i64 0, .int .i64 0] 43)).alloc (.cells #[.int .i64 0, .int .i64 0, .int .i64 0] 43) := ⟨_, rfl⟩
  have HB0 := Lib.hid (show RowKit.Below w.heap.size w W0 by rw [hW0]; exact ((Below.refl _ w).alloc (Nat.le_refl _) _).alloc (by simp) _)
  have H2 := Lib.hid (show S3 W0 w.heap.size zeroS by rw [hW0]; exact (S3.new w zeroS).below ((Below.refl _ _).alloc (Nat.le_refl _) _))
  have H4 := Lib.hid (show S3 W0 (w.heap.size + 1) zeroS by
    rw [hW0]
    have := S3.new (w.alloc (.cells #[.int .i64 0, .int .i64 0, .int .i64 0] 43)) zeroS
    rwa [World.size_alloc] at this)
  have HW := Lib.hid hW0
  clear hv hN hQ hW0
  unfold RetS vS
  go_enter Tryz.func70, Tryz.ntmps70
  go_upto_region 2 with fail
  rw [← HW.out]
  clear HW
  go_wp2_with fail
  go_loopw [9] (fun iv wr => ∃ (k : Nat) (acc : Stp), k ≤ n ∧ iv = .int .i64 k ∧ Hid ((R.drop k).foldl (fun s x => maxS s x.f) acc = Q) ∧ Hid (S3 wr (w.heap.size + 1) acc) ∧ Hid (S3 wr w.heap.size zeroS) ∧ Hid (RowKit.Below w.heap.size w wr)) (fun iv _ => n - (intOf iv).toNat)
  case atStart => exact ⟨0, zeroS, by omega, rfl, Lib.hid (by rw [HQ.out]; rfl), H4, H2, HB0⟩
  case round =>
    obtain ⟨k, acc, hk, rfl, hput, h4, h2, hl⟩ := hrel
    by_cases hlt : k < n
    · have hkr : k < R.length := by have := HN.out; omega
      obtain ⟨xb, xoff, hao, hbl, a0, a1, a2, a3, a4, a5, a6, a7⟩ := (HV.out.below hl.out).get hkr
      cases hao
      have hlie := (HV.out.below hl.out).con R[k] (List.getElem_mem hkr)
      have hst := hput.out
      rw [List.drop_eq_getElem_cons hkr, List.foldl_cons] at hst
      generalize R[k] = x at *
      obtain ⟨xf, xn, xa, xb', xd, xc, ⟨fp, fl, fw⟩⟩ := x
      obtain ⟨o1, n1, k1, e1⟩ := hlie.cells.slice
      obtain ⟨o2, n2, k2, e2⟩ := hlie.wipes.slice
      obtain ⟨o3, n3, k3, e3⟩ := hlie.sibs.slice
      simp only [] at e1 e2 e3
      subst e1 e2 e3
      have HST := Lib.hid hst
      clear hst hlie hput
      simp only [] at a0 a1 a2 a3 a4 a5 a6 a7
      have j0 : (0 : Int) ≤ (k : Int) := by omega
      have j1 : (k : Int) < (n : Int) := by omega
      have HBm := Lib.hid ((Below.refl wr.heap.size wr).alloc (Nat.le_refl _) (.cells #[.int .i64 xf, .int .i64 xn, .slice o1 n1 k1, .slice o2 n2 k2, .slice o3 n3 k3, .int .i64 fp, .int .i64 fl, .int .i64 fw] 62))
      have H4m := Lib.hid (h4.out.below HBm.out)
      have H2m := Lib.hid (h2.out.below HBm.out)
      obtain ⟨sp, sl, sw⟩ := acc
      obtain ⟨hl4, s0, s1, s2, -⟩ := H4m.out
      simp only [] at s0 s1 s2
      have HM := Lib.hid (fun W => max_any ⟨sp, sl, sw⟩ ⟨fp, fl, fw⟩ W)
      unfold RetS at HM
      obtain ⟨mx, hmx⟩ : ∃ mx, mx = maxS ⟨sp, sl, sw⟩ ⟨fp, fl, fw⟩ := ⟨_, rfl⟩
      rw [← hmx] at HM
      have HS2 := Lib.hid (show (R.drop (k + 1)).foldl (fun s x => maxS s x.f) mx = Q by rw [← HST.out, hmx])
      clear hmx
      obtain ⟨mp, ml, mw⟩ := mx
      unfold vS at HM
      simp only [] at HM
      go_wp2_with fail
      refine (HM.out _).mono ?_
      rintro e w2 ⟨rfl, hb⟩
      have H4a := Lib.hid (H4m.out.below hb)
      have H2a := Lib.hid (H2m.out.below hb)
      have HBa := Lib.hid (below_then hl.out (Nat.le_refl _) (below_then HBm.out (Nat.le_refl _) hb))
      clear hb s0 s1 s2 hl4 a0 a1 a2 a3 a4 a5 a6 a7
      obtain ⟨hl4, s0, s1, s2, f0, f1, f2⟩ := H4a.out
      simp only [] at s0 s1 s2
      go_wp2_with fail
      go_roundw
      case rel => exact ⟨k + 1, ⟨mp, ml, mw⟩, by omega, by go_num, HS2, Lib.hid (s3_put H4a.out ⟨mp, ml, mw⟩), Lib.hid (((H2a.out.other (by omega)).other (by omega)).other (by omega)), Lib.hid (s3_put_below HBa.out (by omega) _ _ _)⟩
      case measure => simp [intOf]; omega
    · obtain rfl : k = n := by omega
      have HQ2 := Lib.hid (show acc = Q by have h := hput.out; rw [List.drop_of_length_le (by have := HN.out; omega)] at h; exact h)
      obtain ⟨hl4, s0, s1, s2, -⟩ := h4.out
      obtain ⟨hl2, t0, t1, t2, f0, f1, f2⟩ := h2.out
      go_wp2_with fail
      obtain ⟨-, u0, u1, u2, -⟩ := s3_put h2.out acc
      refine bodyPost_ret (v := .agg #[.int .i64 acc.p, .int .i64 acc.l, .int .i64 acc.w]) (by simp [results, Tryz.f70, go_sem, u0, u1, u2]) rfl ?_
      exact ⟨by rw [← HQ2.out], s3_put_below hl.out (by omega) _ _ _⟩

/-! ## What all have together -/
def countsY (s : Stp) (x : Ry) : Con := if eqT x.f s = true then x.c else x.c.filter (aboveB s)
theorem countsY_good {x : Ry} {n : Nat} (h : Good x.c n) (s : Stp) : Good (countsY s x) n := by
  unfold countsY
  split
  · exact h
  · exact h.filter _
def mergeF (R : List Ry) : Con := (R.map (countsY (floorF R))).foldl joinC ⟨[], [], []⟩
theorem mergeF_good {R : List Ry} {m : Nat} (h : ∀ x ∈ R, Good x.c m) : Good (mergeF R) (m * R.length) := by
  unfold mergeF
  have h2 := join_good (R.map (countsY (floorF R))) ⟨[], [], []⟩ 0 m empty_good (fun d hd => by
    obtain ⟨x, hx, rfl⟩ := List.mem_map.1 hd
    exact countsY_good (h x hx) _)
  rw [List.length_map, Nat.zero_add] at h2
  exact h2

set_option maxHeartbeats 8000000 in
set_option maxRecDepth 100000 in
theorem merge_any (v : Value) (R : List Ry) (m : Nat) (w : World) (hT : Tabs w) (hv : YRow w v R) (hG : ∀ x ∈ R, Good x.c m) (hn : R.length ≤ 100) (hm : m ≤ 100) :
    Calls Tryz.prog 26 #[v] w (RetC (mergeF R) w) := by
  have HFl := Lib.hid (fun W (h : RowKit.Below w.heap.size w W) => floor_any v R W (hv.below h) (by omega))
  obtain ⟨ao, cap, rfl, -, -⟩ := hv.form
  obtain ⟨n, hN⟩ : ∃ n, n = R.length := ⟨_, rfl⟩
  rw [← hN] at hv hn HFl ⊢
  obtain ⟨Q, hQ⟩ : ∃ Q, Q = mergeF R := ⟨_, rfl⟩
  rw [← hQ]
  obtain ⟨s, hs⟩ : ∃ s, s = floorF R := ⟨_, rfl⟩
  rw [← hs] at HFl
  unfold mergeF at hQ
  rw [← hs] at hQ
  obtain ⟨sp, sl, sw⟩ := s
  have HQ := Lib.hid hQ
  have HV := Lib.hid hv
  have HN := Lib.hid hN
  have HG := Lib.hid hG
  have HT := Lib.hid hT
  obtain ⟨W0, hW0⟩ : ∃ W0, W0 = w.alloc (.cells #[.slice none 0 0, .slice none 0 0, .slice none 0 0] 28) := ⟨_, rfl⟩
  have HB0 := Lib.hid (show RowKit.Below w.heap.size w W0 by rw [hW0]; exact (Below.refl _ w).alloc (Nat.le_refl _) _)
  have HC0 := Lib.hid (show C3 W0 w.heap.size (.slice none 0 0) (.slice none 0 0) (.slice none 0 0) by rw [hW0]; exact C3.new w _ _ _)
  have HW := Lib.hid hW0
  clear hv hN hQ hW0 hs hG hT
  unfold RetS at HFl
  unfold RetC
  unfold vS at HFl
  simp only [] at HFl
  obtain ⟨k2, hk2⟩ : ∃ k, k = w.heap.size := ⟨_, rfl⟩
  rw [← hk2] at HC0
  go_enter Tryz.func26, Tryz.ntmps26
  go_upto_region 1 with fail
  rw [← HW.out, ← hk2]
  have HK2 := Lib.hid hk2
  clear HW hk2
  go_wp2_with fail
  refine (HFl.out _ HB0.out).mono ?_
  rintro e w1 ⟨rfl, hb⟩
  have HB1 := Lib.hid (below_then HB0.out (Nat.le_refl _) hb)
  have HC1 := Lib.hid (HC0.out.below hb)
  clear hb HC0 HB0 HFl
  go_upto_region 3 with fail
  obtain ⟨W2, hW2⟩ : ∃ W2, W2 = (w1.alloc (.cells #[.int .i64 sp, .int .i64 sl, .int .i64 sw] 43)).alloc (.cells #[.slice none 0 0, .slice none 0 0, .slice none 0 0] 28) := ⟨_, rfl⟩
  rw [← hW2]
  have hb2 : RowKit.Below w1.heap.size w1 W2 := by rw [hW2]; exact ((Below.refl _ w1).alloc (Nat.le_refl _) _).alloc (by simp) _
  have h3 : S3 W2 w1.heap.size ⟨sp, sl, sw⟩ := by rw [hW2]; exact (S3.new w1 ⟨sp, sl, sw⟩).below ((Below.refl _ _).alloc (Nat.le_refl _) _)
  have h4 : C3 W2 (w1.heap.size + 1) (.slice none 0 0) (.slice none 0 0) (.slice none 0 0) := by
    rw [hW2]
    have := C3.new (w1.alloc (.cells #[.int .i64 sp, .int .i64 sl, .int .i64 sw] 43)) (.slice none 0 0) (.slice none 0 0) (.slice none 0 0)
    rwa [World.size_alloc] at this
  have hk : k2 < w1.heap.size := HC1.out.lt
  obtain ⟨k3, hk3⟩ : ∃ k, k = w1.heap.size := ⟨_, rfl⟩
  have hkk : k2 < k3 := by omega
  rw [← hk3] at h3 h4 ⊢
  obtain ⟨k4, hk4⟩ : ∃ k, k = k3 + 1 := ⟨_, rfl⟩
  have hk34 : k3 < k4 := by omega
  have hkw : w.heap.size ≤ k2 := by have := HK2.out; omega
  rw [← hk4] at h4 ⊢
  have H3 := Lib.hid h3
  have H4 := Lib.hid (show ∃ o4 n4 c4 o5 n5 c5 o6 n6 c6, C3 W2 k4 (.slice o4 n4 c4) (.slice o5 n5 c5) (.slice o6 n6 c6) ∧ Lies W2 (.slice o4 n4 c4) (.slice o5 n5 c5) (.slice o6 n6 c6) ⟨[], [], []⟩ from ⟨none, 0, 0, none, 0, 0, none, 0, 0, h4, Lies.none _⟩)
  have HC2 := Lib.hid (HC1.out.below hb2)
  have HB2 := Lib.hid (below_then HB1.out (Nat.le_refl _) hb2)
  clear hW2 hb2 h3 h4 hk hk3 hk4 HC1 HB1
  go_wp2_with fail
  go_loopw [13] (fun iv wr => ∃ (k : Nat) (acc : Con), k ≤ n ∧ iv = .int .i64 k ∧ Hid (((R.drop k).map (countsY ⟨sp, sl, sw⟩)).foldl joinC acc = Q) ∧ Hid (Good acc (m * k)) ∧ Hid (∃ o4 n4 c4 o5 n5 c5 o6 n6 c6, C3 wr k4 (.slice o4 n4 c4) (.slice o5 n5 c5) (.slice o6 n6 c6) ∧ Lies wr (.slice o4 n4 c4) (.slice o5 n5 c5) (.slice o6 n6 c6) acc) ∧
    Hid (S3 wr k3 ⟨sp, sl, sw⟩) ∧ Hid (C3 wr k2 (.slice none 0 0) (.slice none 0 0) (.slice none 0 0)) ∧ Hid (RowKit.Below w.heap.size w wr)) (fun iv _ => n - (intOf iv).toNat)
  case atStart => exact ⟨0, ⟨[], [], []⟩, by omega, rfl, Lib.hid HQ.out.symm, Lib.hid (by simpa using empty_good), H4, H3, HC2, HB2⟩
  case round =>
    clear H3 H4 HC2 HB2
    obtain ⟨k, acc, hk, rfl, hput, hgood, h4, h3, hc2, hl⟩ := hrel
    by_cases hlt : k < n
    · have hkr : k < R.length := by have := HN.out; omega
      obtain ⟨xbk, xoff, hao, hbl, a0, a1, a2, a3, a4, a5, a6, a7⟩ := (HV.out.below hl.out).get hkr
      cases hao
      have hlie := (HV.out.below hl.out).con R[k] (List.getElem_mem hkr)
      have hgx := HG.out R[k] (List.getElem_mem hkr)
      have hst := hput.out
      rw [List.drop_eq_getElem_cons hkr, List.map_cons, List.foldl_cons] at hst
      obtain ⟨cx, hcx⟩ : ∃ cx, cx = countsY ⟨sp, sl, sw⟩ R[k] := ⟨_, rfl⟩
      rw [← hcx] at hst
      have hgc : Good cx m := by rw [hcx]; exact countsY_good hgx _
      obtain ⟨jx, hjx⟩ : ∃ jx, jx = joinC acc cx := ⟨_, rfl⟩
      rw [← hjx] at hst
      have HGJ := Lib.hid (show Good jx (m * (k + 1)) by rw [hjx, Nat.mul_succ]; exact joinC_good hgood.out hgc)
      have hmk : m * k ≤ 100 * 100 := Nat.mul_le_mul (by omega) (by omega)
      have HJN := Lib.hid (fun v W (hv : IsC acc v W) {v' : Value} (hv' : IsC cx v' W) (hTW : Tabs W) => show Calls Tryz.prog 25 #[v, v'] W (RetC jx W) from by rw [hjx]; exact c_join (n := m * k) (n' := m) hTW hv hgood.out hv' hgc (by omega))
      have HAB := Lib.hid (fun v W (hv : IsC R[k].c v W) => show Calls Tryz.prog 71 #[v, .agg #[.int .i64 sp, .int .i64 sl, .int .i64 sw]] W (RetC (R[k].c.filter (aboveB ⟨sp, sl, sw⟩)) W) from c_above (n := m) ⟨sp, sl, sw⟩ hv hgx (by omega))
      have hcx2 : cx = if eqT R[k].f ⟨sp, sl, sw⟩ = true then R[k].c else R[k].c.filter (aboveB ⟨sp, sl, sw⟩) := hcx
      have HST := Lib.hid hst
      clear hst hjx hcx hgc hgx hput
      generalize R[k] = x at *
      obtain ⟨xf, xn, xa, xb', xd, xc, ⟨fp, fl, fw⟩⟩ := x
      obtain ⟨o1, n1, k1, e1⟩ := hlie.cells.slice
      obtain ⟨o2, n2, k2', e2⟩ := hlie.wipes.slice
      obtain ⟨o3, n3, k3', e3⟩ := hlie.sibs.slice
      simp only [] at e1 e2 e3
      subst e1 e2 e3
      simp only [] at a0 a1 a2 a3 a4 a5 a6 a7 hcx2 HAB hlie
      obtain ⟨E, hE⟩ : ∃ E, eqT ⟨fp, fl, fw⟩ ⟨sp, sl, sw⟩ = E := ⟨_, rfl⟩
      rw [hE] at hcx2
      have hq1 := neqT_run _ _ _ hE
      simp only [] at hq1
      have hq2 := guardT_run .neq
      have HCX := Lib.hid hcx2
      have HLX := Lib.hid hlie
      clear hcx2 hE hlie
      have j0 : (0 : Int) ≤ (k : Int) := by omega
      have j1 : (k : Int) < (n : Int) := by omega
      obtain ⟨o4, n4, c4, o5, n5, c5, o6, n6, c6, hc4, hl4⟩ := h4.out
      obtain ⟨W3, hW3⟩ : ∃ W3, W3 = (wr.alloc (.cells #[.int .i64 xf, .int .i64 xn, .slice o1 n1 k1, .slice o2 n2 k2', .slice o3 n3 k3', .int .i64 fp, .int .i64 fl, .int .i64 fw] 62)).alloc (.cells #[.slice o1 n1 k1, .slice o2 n2 k2', .slice o3 n3 k3'] 28) := ⟨_, rfl⟩
      have hb3 : RowKit.Below wr.heap.size wr W3 := by rw [hW3]; exact ((Below.refl _ wr).alloc (Nat.le_refl _) _).alloc (by simp) _
      have y5 : W3.cell? ⟨wr.heap.size, 5, none⟩ = some (.int .i64 fp) := by rw [hW3]; go_simp
      have y6 : W3.cell? ⟨wr.heap.size, 6, none⟩ = some (.int .i64 fl) := by rw [hW3]; go_simp
      have y7 : W3.cell? ⟨wr.heap.size, 7, none⟩ = some (.int .i64 fw) := by rw [hW3]; go_simp
      have hc7 : C3 W3 (wr.heap.size + 1) (.slice o1 n1 k1) (.slice o2 n2 k2') (.slice o3 n3 k3') := by
        rw [hW3]
        have := C3.new (wr.alloc (.cells #[.int .i64 xf, .int .i64 xn, .slice o1 n1 k1, .slice o2 n2 k2', .slice o3 n3 k3', .int .i64 fp, .int .i64 fl, .int .i64 fw] 62)) (.slice o1 n1 k1) (.slice o2 n2 k2') (.slice o3 n3 k3')
        rwa [World.size_alloc] at this
      have hk4r : k4 < wr.heap.size := hc4.lt
      have HC7 := Lib.hid hc7
      have HC4 := Lib.hid (hc4.below hb3)
      have HL4 := Lib.hid (hl4.below hb3)
      have HLX3 := Lib.hid (HLX.out.below hb3)
      have HS3 := Lib.hid (h3.out.below hb3)
      have HC23 := Lib.hid (hc2.out.below hb3)
      have HB3 := Lib.hid (below_then hl.out (Nat.le_refl _) hb3)
      have hwr : w.heap.size ≤ wr.heap.size := hl.out.size
      have HW3 := Lib.hid hW3
      clear hb3 hW3 hc7 hc4 hl4 HLX
      go_upto_region 7 with fail
      rw [← HW3.out]
      clear HW3 a0 a1 a2 a3 a4 a5 a6 a7
      obtain ⟨k7, hk7⟩ : ∃ k, k = wr.heap.size + 1 := ⟨_, rfl⟩
      have hk47 : k4 < k7 := by omega
      have hw7 : w.heap.size ≤ k7 := by omega
      have hk67 : wr.heap.size ≠ k7 := by omega
      rw [← hk7] at HC7 ⊢
      clear hk7
      obtain ⟨-, s0, s1, s2, -⟩ := HS3.out
      obtain ⟨-, t0, t1, t2, g0, g1, g2⟩ := HC7.out
      obtain ⟨-, u0, u1, u2, v0, v1, v2⟩ := HC4.out
      simp only [] at s0 s1 s2
      cases E
      case true =>
        have HCE := Lib.hid (show cx = xc by have h := HCX.out; simpa using h)
        have HL7 := Lib.hid (show Lies W3 (.slice o1 n1 k1) (.slice o2 n2 k2') (.slice o3 n3 k3') cx by rw [HCE.out]; exact HLX3.out)
        go_wp2_with fail
        refine (HJN.out _ W3 HL4.out.is HL7.out.is (HT.out.below HB3.out)).mono ?_
        rintro e w6 ⟨v6, rfl, hc6, hb6⟩
        obtain ⟨o7, n7, c7, o8, n8, c8, o9, n9, c9, rfl, hl6⟩ := hc6.form
        have HL6 := Lib.hid hl6
        have HC46 := Lib.hid (HC4.out.below hb6)
        have HS6 := Lib.hid (HS3.out.below hb6)
        have HC26 := Lib.hid (HC23.out.below hb6)
        have HB6 := Lib.hid (below_then HB3.out (Nat.le_refl _) hb6)
        clear hl6 hc6 hb6 s0 s1 s2 t0 t1 t2 g0 g1 g2 u0 u1 u2 v0 v1 v2 y5 y6 y7
        obtain ⟨-, u0, u1, u2, v0, v1, v2⟩ := HC46.out
        go_wp2_with fail
        go_roundw
        case rel => exact ⟨k + 1, jx, by omega, by go_num, HST, HGJ, Lib.hid ⟨_, _, _, _, _, _, _, _, _, c3_put HC46.out (.slice o7 n7 c7) (.slice o8 n8 c8) (.slice o9 n9 c9), HL6.out.plain3 (plain3 HC46.out _ _ _)⟩, Lib.hid (((HS6.out.other (by omega)).other (by omega)).other (by omega)), Lib.hid (((HC26.out.other (by omega)).other (by omega)).other (by omega)), Lib.hid (c3_put_below HB6.out (by omega) _ _ _)⟩
        case measure => simp [intOf]; omega
      case false =>
        have HCE := Lib.hid (show cx = xc.filter (aboveB ⟨sp, sl, sw⟩) by have h := HCX.out; simpa using h)
        go_wp2_with fail
        refine (HAB.out _ W3 HLX3.out.is).mono ?_
        rintro e w4 ⟨v4, rfl, hc5, hb4⟩
        obtain ⟨p1, q1, r1, p2, q2, r2, p3, q3, r3, rfl, hl5⟩ := hc5.form
        have HL5 := Lib.hid (show Lies w4 (.slice p1 q1 r1) (.slice p2 q2 r2) (.slice p3 q3 r3) cx by rw [HCE.out]; exact hl5)
        have HC75 := Lib.hid (HC7.out.below hb4)
        have HC45 := Lib.hid (HC4.out.below hb4)
        have HL45 := Lib.hid (HL4.out.below hb4)
        have HS5 := Lib.hid (HS3.out.below hb4)
        have HC25 := Lib.hid (HC23.out.below hb4)
        have HB5 := Lib.hid (below_then HB3.out (Nat.le_refl _) hb4)
        clear hl5 hc5 hb4 s0 s1 s2 t0 t1 t2 g0 g1 g2 u0 u1 u2 v0 v1 v2 y5 y6 y7
        obtain ⟨-, t0, t1, t2, g0, g1, g2⟩ := HC75.out
        go_upto_region 9 with fail
        obtain ⟨W5, hW5⟩ : ∃ W5, W5 = (((w4.setCell ⟨k7, 0, none⟩ (.slice p1 q1 r1)).setCell ⟨k7, 1, none⟩ (.slice p2 q2 r2)).setCell ⟨k7, 2, none⟩ (.slice p3 q3 r3)) := ⟨_, rfl⟩
        rw [← hW5]
        have HC7n := Lib.hid (show C3 W5 k7 (.slice p1 q1 r1) (.slice p2 q2 r2) (.slice p3 q3 r3) by rw [hW5]; exact c3_put HC75.out _ _ _)
        have HL7n := Lib.hid (show Lies W5 (.slice p1 q1 r1) (.slice p2 q2 r2) (.slice p3 q3 r3) cx by rw [hW5]; exact HL5.out.plain3 (plain3 HC75.out _ _ _))
        have HL4n := Lib.hid (show Lies W5 (.slice o4 n4 c4) (.slice o5 n5 c5) (.slice o6 n6 c6) acc by rw [hW5]; exact HL45.out.plain3 (plain3 HC75.out _ _ _))
        have HC4n := Lib.hid (show C3 W5 k4 (.slice o4 n4 c4) (.slice o5 n5 c5) (.slice o6 n6 c6) by rw [hW5]; exact ((HC45.out.other (by omega)).other (by omega)).other (by omega))
        have HS5n := Lib.hid (show S3 W5 k3 ⟨sp, sl, sw⟩ by rw [hW5]; exact ((HS5.out.other (by omega)).other (by omega)).other (by omega))
        have HC2n := Lib.hid (show C3 W5 k2 (.slice none 0 0) (.slice none 0 0) (.slice none 0 0) by rw [hW5]; exact ((HC25.out.other (by omega)).other (by omega)).other (by omega))
        have HB5n := Lib.hid (show RowKit.Below w.heap.size w W5 by rw [hW5]; exact c3_put_below HB5.out hw7 _ _ _)
        clear hW5 t0 t1 t2 g0 g1 g2
        obtain ⟨-, t0, t1, t2, g0, g1, g2⟩ := HC7n.out
        obtain ⟨-, u0, u1, u2, v0, v1, v2⟩ := HC4n.out
        go_wp2_with fail
        refine (HJN.out _ W5 HL4n.out.is HL7n.out.is (HT.out.below HB5n.out)).mono ?_
        rintro e w6 ⟨v6, rfl, hc6, hb6⟩
        obtain ⟨o7, n7, c7, o8, n8, c8, o9, n9, c9, rfl, hl6⟩ := hc6.form
        have HL6 := Lib.hid hl6
        have HC46 := Lib.hid (HC4n.out.below hb6)
        have HS6 := Lib.hid (HS5n.out.below hb6)
        have HC26 := Lib.hid (HC2n.out.below hb6)
        have HB6 := Lib.hid (below_then HB5n.out (Nat.le_refl _) hb6)
        clear hl6 hc6 hb6 t0 t1 t2 g0 g1 g2 u0 u1 u2 v0 v1 v2
        obtain ⟨-, u0, u1, u2, v0, v1, v2⟩ := HC46.out
        go_wp2_with fail
        go_roundw
        case rel => exact ⟨k + 1, jx, by omega, by go_num, HST, HGJ, Lib.hid ⟨_, _, _, _, _, _, _, _, _, c3_put HC46.out (.slice o7 n7 c7) (.slice o8 n8 c8) (.slice o9 n9 c9), HL6.out.plain3 (plain3 HC46.out _ _ _)⟩, Lib.hid (((HS6.out.other (by omega)).other (by omega)).other (by omega)), Lib.hid (((HC26.out.other (by omega)).other (by omega)).other (by omega)), Lib.hid (c3_put_below HB6.out (by omega) _ _ _)⟩
        case measure => simp [intOf]; omega
    · obtain rfl : k = n := by omega
      have HQ2 := Lib.hid (show acc = Q by have h := hput.out; rw [List.drop_of_length_le (by have := HN.out; omega)] at h; exact h)
      obtain ⟨o4, n4, c4, o5, n5, c5, o6, n6, c6, hc4, hl4⟩ := h4.out
      have HL4 := Lib.hid hl4
      clear hl4
      obtain ⟨-, u0, u1, u2, -⟩ := hc4
      obtain ⟨-, t0, t1, t2, g0, g1, g2⟩ := hc2.out
      go_wp2_with fail
      obtain ⟨-, x0, x1, x2, -⟩ := c3_put hc2.out (.slice o4 n4 c4) (.slice o5 n5 c5) (.slice o6 n6 c6)
      refine bodyPost_ret (v := .agg #[.slice o4 n4 c4, .slice o5 n5 c5, .slice o6 n6 c6]) (by simp [results, Tryz.f26, go_sem, x0, x1, x2]) rfl ?_
      exact ⟨_, rfl, by rw [← HQ2.out]; exact (HL4.out.plain3 (plain3 hc2.out _ _ _)).is, c3_put_below hl.out hkw _ _ _⟩
end Go.Proofs.YtmfhmcegmeinnaaGreatDoor.Mut

namespace Go.Proofs.YtmfhmcegmeinnaaGreatDoor.Mut
open Go.RowKit Go.Sort Go.Proofs.YtmfhmcegmeinnaaGreatDoor.Ord Go.Proofs.YtmfhmcegmeinnaaGreatDoor.RegInv
set_option linter.unusedSectionVars false
variable [Inhabited Lim]

theorem filter_congrC {c : Con} {p q : Mu → Bool} (h : ∀ m ∈ c.all, p m = q m) : c.filter p = c.filter q := by
  obtain ⟨a, b, d⟩ := c
  unfold Con.filter
  rw [List.filter_congr fun m hm => h m (Con.mem_all.2 (Or.inl hm)), List.filter_congr fun m hm => h m (Con.mem_all.2 (Or.inr (Or.inl hm))), List.filter_congr fun m hm => h m (Con.mem_all.2 (Or.inr (Or.inr hm)))]
theorem filter_selfC {c : Con} {p : Mu → Bool} (h : ∀ m ∈ c.all, p m = true) : c.filter p = c := by
  obtain ⟨a, b, d⟩ := c
  unfold Con.filter
  rw [List.filter_eq_self.2 fun m hm => h m (Con.mem_all.2 (Or.inl hm)), List.filter_eq_self.2 fun m hm => h m (Con.mem_all.2 (Or.inr (Or.inl hm))), List.filter_eq_self.2 fun m hm => h m (Con.mem_all.2 (Or.inr (Or.inr hm)))]
theorem zero_underS {m : Mu} (h : rightF m = true) : stC zeroS m.at_ < 0 := by
  unfold rightF rightG at h
  simp only [Bool.and_eq_true] at h
  have h1 : stR m.at_ = true := by simp_all
  unfold stR at h1
  simp only [Bool.and_eq_true, decide_eq_true_eq, Bool.not_eq_true', Bool.and_eq_false_iff, decide_eq_false_iff_not] at h1
  obtain ⟨⟨⟨⟨⟨⟨a0, a1⟩, a2⟩, -⟩, -⟩, -⟩, a3⟩ := h1
  simp only [stC, zeroS, orL, cmpI]
  repeat' split
  all_goals omega
/-- The greatest floor is the later of the two floors, or the zero stamp. -/
theorem floor_two {floor first : Stp} (hlt : stC first floor < 0) : ∀ (R : List Ry) (z : Stp), (∀ x ∈ R, x.f = floor ∨ x.f = first) →
    R.foldl (fun s x => maxS s x.f) z = z ∨ R.foldl (fun s x => maxS s x.f) z = floor ∨ R.foldl (fun s x => maxS s x.f) z = first
  | [], z, h => Or.inl rfl
  | x :: R, z, h => by
    rw [List.foldl_cons]
    have h2 := floor_two hlt R (maxS z x.f) fun y hy => h y (List.mem_cons_of_mem _ hy)
    rcases h2 with e | e | e
    · rw [e]
      unfold maxS
      split
      · exact Or.inr (h x (List.mem_cons_self ..))
      · exact Or.inl rfl
    · exact Or.inr (Or.inl e)
    · exact Or.inr (Or.inr e)
theorem floor_ge (s : Stp) : ∀ (R : List Ry) (z : Stp), (stC s z ≤ 0 ∨ ∃ x ∈ R, x.f = s) → stC s (R.foldl (fun s x => maxS s x.f) z) ≤ 0
  | [], z, h => by
    rcases h with h | ⟨x, hx, _⟩
    · exact h
    · cases hx
  | x :: R, z, h => by
    rw [List.foldl_cons]
    refine floor_ge s R _ ?_
    have hm1 : stC z (maxS z x.f) ≤ 0 := by
      unfold maxS
      split
      · exact Int.le_of_lt (by assumption)
      · rw [stO.self]; omega
    have hm2 : stC x.f (maxS z x.f) ≤ 0 := by
      unfold maxS
      split
      · rw [stO.self]; omega
      · exact (stO.le_of).1 (by assumption)
    rcases h with h | ⟨y, hy, e⟩
    · exact Or.inl (stO.le_le h hm1)
    · rcases List.mem_cons.1 hy with rfl | hy
      · exact Or.inl (by rw [← e]; exact hm2)
      · exact Or.inr ⟨y, hy, e⟩
/-- What a replica tells, and as of when. -/
def tellQ (L : List Mu) (floor first : Stp) (q : Qr) : Con × Stp := if q.swept then (sweepC (leftOf (L ++ q.above)) floor, floor) else (leftOf (L ++ q.above), first)
theorem sees_merge {L : List Mu} {floor first : Stp} (hlt : stC first floor < 0) {R : List Ry} {l : List Qr} (hR : R.map (fun x => (x.c, x.f)) = l.map (tellQ L floor first)) (hs : ∃ q ∈ l, q.swept = true) :
    mergeF R = leftOf (l.flatMap fun q => (partQ L floor q).all) := by
  have hf : ∀ x ∈ R, x.f = floor ∨ x.f = first := fun x hx => by
    have h1 : (x.c, x.f) ∈ l.map (tellQ L floor first) := by rw [← hR]; exact List.mem_map.2 ⟨x, hx, rfl⟩
    obtain ⟨q, hq, e⟩ := List.mem_map.1 h1
    unfold tellQ at e
    split at e
    · exact Or.inl (congrArg (·.2) e).symm
    · exact Or.inr (congrArg (·.2) e).symm
  have hsome : ∃ x ∈ R, x.f = floor := by
    obtain ⟨q, hq, e⟩ := hs
    have h1 : tellQ L floor first q ∈ R.map (fun x => (x.c, x.f)) := by rw [hR]; exact List.mem_map.2 ⟨q, hq, rfl⟩
    obtain ⟨x, hx, e2⟩ := List.mem_map.1 h1
    refine ⟨x, hx, ?_⟩
    unfold tellQ at e2
    rw [if_pos e] at e2
    exact congrArg (·.2) e2
  obtain ⟨s, hsx⟩ : ∃ s, s = floorF R := ⟨_, rfl⟩
  have h1 : stC floor s ≤ 0 := by rw [hsx]; exact floor_ge floor R zeroS (Or.inr hsome)
  have h2 : s = zeroS ∨ s = floor := by
    rcases floor_two hlt R zeroS hf with e | e | e
    · exact Or.inl (hsx.trans e)
    · exact Or.inr (hsx.trans e)
    · exfalso
      have e2 : s = first := hsx.trans e
      rw [e2] at h1
      exact absurd hlt (by have := (stO.le_of (a := first) (b := floor)).2; omega)
  have key : ∀ q : Qr, countsY s ⟨0, 0, undef, undef, undef, (tellQ L floor first q).1, (tellQ L floor first q).2⟩ = partQ L floor q := by
    intro q
    have hr : ∀ m ∈ (leftOf (L ++ q.above)).all, rightF m = true := (leftOf_good _).okc.right
    unfold countsY tellQ partQ
    cases q.swept
    · simp only [Bool.false_eq_true, if_false]
      have hne : eqT first s = false := by
        cases e : eqT first s
        · rfl
        · have e2 := (eqT_iff _ _).1 e
          rw [← e2] at h1
          exact absurd hlt (by have := (stO.le_of (a := first) (b := floor)).2; omega)
      rw [hne]
      simp only [Bool.false_eq_true, if_false]
      refine filter_congrC fun m hm => ?_
      unfold aboveB
      rcases h2 with e | e
      · have hz := zero_underS (hr m hm)
        rw [e, decide_eq_true hz, decide_eq_true]
        rw [e] at h1
        exact stO.le_lt h1 hz
      · rw [e]
    · simp only [if_true]
      split
      · rfl
      · refine filter_selfC fun m hm => decide_eq_true ?_
        have hm2 := (mem_sweepC.1 hm).1
        rcases h2 with e | e
        · rw [e]; exact zero_underS (hr m hm2)
        · rename_i hne
          exact absurd ((eqT_iff _ _).2 e.symm) hne
  have hmap : R.map (countsY s) = l.map (partQ L floor) := by
    have e1 : R.map (countsY s) = (R.map fun x => (x.c, x.f)).map fun p => countsY s ⟨0, 0, undef, undef, undef, p.1, p.2⟩ := by
      rw [List.map_map]
      rfl
    rw [e1, hR, List.map_map]
    exact List.map_congr_left fun q _ => key q
  unfold mergeF
  rw [← hsx, hmap, join_many, List.flatMap_map]
end Go.Proofs.YtmfhmcegmeinnaaGreatDoor.Mut
