/- Nothing rises (layers 10, 29), in plain Lean: what was swept, with later mutations, shows what all that ever came shows. -/
import Derived.Test.YtipoeigehabbmaaGreatDoorViewPlain
import Derived.Test.YtipoeigehabbmaaGreatDoorSweep
set_option linter.unusedSimpArgs false
set_option linter.unusedVariables false
namespace Go.Proofs.YtipoeigehabbmaaGreatDoor.Mut
open Go.Proofs.YtipoeigehabbmaaGreatDoor.Ord
set_option linter.unusedSectionVars false
variable [Inhabited Lim]

theorem over_lt {t : Stp} : ∀ (l : List Stp) (prev : Option Stp), overFrom t prev l = true → ∀ s ∈ l, stC s t < 0
  | [], _, _, s, hs => absurd hs (List.not_mem_nil)
  | x :: l, prev, h, s, hs => by
    unfold overFrom at h
    simp only [Bool.and_eq_true, decide_eq_true_eq] at h
    rcases List.mem_cons.1 hs with rfl | hs
    · exact h.2.1
    · exact over_lt l _ h.2.2.2 s hs
/-- What a mutation supersedes is earlier than it. -/
theorem right_over {m : Mu} (h : rightF m = true) {s : Stp} (hs : hasS m.over s = true) : stC s m.at_ < 0 := by
  unfold rightF rightG at h
  simp only [Bool.and_eq_true] at h
  have ho := h.2.2.1
  unfold overF at ho
  rw [Bool.and_eq_true] at ho
  obtain ⟨y, hy, e⟩ := List.any_eq_true.1 hs
  have e' : y = s := (eqT_iff _ _).1 e
  exact e' ▸ over_lt _ _ ho.1 y hy
/-- What hides a mutation is no earlier. -/
theorem hidden_at {m y : Mu} (hy : rightF y = true) (h : hiddenB m y = true) : stC m.at_ y.at_ ≤ 0 := by
  unfold hiddenB at h
  rw [Bool.and_eq_true] at h
  by_cases h2 : m.table = 2
  · rw [if_pos h2, Bool.and_eq_true] at h
    have := right_over hy h.2.2
    omega
  · rw [if_neg h2] at h
    by_cases h3 : y.kind = 3
    · rw [if_pos h3] at h
      have := ((hits_iff _ _ _).2 h.2).2
      omega
    · rw [if_neg h3, Bool.and_eq_true, decide_eq_true_eq] at h
      exact muC_at (Int.le_of_lt (of_decide_eq_true h.2.2))
/-- What is hidden by one that came is hidden by one that is left, no earlier. -/
theorem hidden_left {l : List Mu} {m y : Mu} (hm : rightF m = true) (hy : Fits l y) (h : hiddenB m y = true) : ∃ z, z ∈ (leftOf l).all ∧ hiddenB m z = true ∧ stC y.at_ z.at_ ≤ 0 := by
  have hR := (leftOf_both l).1
  have h0 := h
  unfold hiddenB at h
  rw [Bool.and_eq_true, decide_eq_true_eq] at h
  obtain ⟨ht, h⟩ := h
  by_cases h2 : m.table = 2
  · exact ⟨y, Con.mem_all.2 (Or.inr (Or.inr ((hR.sibs y).2 ⟨hy, show y.table = 2 from ht.symm.trans h2⟩))), h0, by rw [stO.self]; omega⟩
  · have hy2 : ¬ y.table = 2 := fun e => h2 (ht.trans e)
    have hm1 : m.table = 1 := (right_table hm).resolve_right h2
    rw [if_neg h2] at h
    by_cases h3 : y.kind = 3
    · rw [if_pos h3] at h
      have hh := (hits_iff _ _ _).2 h
      obtain ⟨z, hz, hw⟩ := hR.domW y hy ⟨hy2, h3⟩
      obtain ⟨sz, wz⟩ := hR.wipes z hz
      have hzy : stC y.at_ z.at_ ≤ 0 := (stO.le_of).1 hw.2.2
      have hhz : hits z m.key m.at_ := ⟨⟨wz.2, Tot.str.le_le hw.1 hh.1.2.1, Tot.str.lt_le hh.1.2.2 hw.2.1⟩, stO.lt_le hh.2 hzy⟩
      refine ⟨z, Con.mem_all.2 (Or.inr (Or.inl hz)), ?_, hzy⟩
      unfold hiddenB
      rw [if_neg h2, if_pos wz.2, (hits_iff _ _ _).1 hhz, hm1, (((fit_of sz.2)).wipe wz.2).1]
      rfl
    · rw [if_neg h3, Bool.and_eq_true, key_beq, decide_eq_true_eq] at h
      obtain ⟨hk, hlt⟩ := h
      rcases hR.domC y hy ⟨hy2, h3⟩ with ⟨z, hz, ek, hle⟩ | ⟨z, hz, hh⟩
      · obtain ⟨sz, cz⟩ := hR.cells z hz
        refine ⟨z, Con.mem_all.2 (Or.inl hz), ?_, muC_at hle⟩
        unfold hiddenB
        rw [if_neg h2, if_neg cz.2, (key_beq (a := z.key) (b := m.key)).2 (ek.trans hk), decide_eq_true (muO.lt_le hlt hle), hm1, (right_table sz.2).resolve_right cz.1]
        rfl
      · obtain ⟨sz, wz⟩ := hR.wipes z hz
        have hat : stC m.at_ y.at_ ≤ 0 := muC_at (Int.le_of_lt hlt)
        rw [hk] at hh
        have hhz : hits z m.key m.at_ := ⟨hh.1, stO.le_lt hat hh.2⟩
        refine ⟨z, Con.mem_all.2 (Or.inr (Or.inl hz)), ?_, Int.le_of_lt hh.2⟩
        unfold hiddenB
        rw [if_neg h2, if_pos wz.2, (hits_iff _ _ _).1 hhz, hm1, (((fit_of sz.2)).wipe wz.2).1]
        rfl
def sweepC (c : Con) (s : Stp) : Con := c.filter fun m => !deadF c s m
theorem mem_sweepC {c : Con} {s : Stp} {m : Mu} : m ∈ (sweepC c s).all ↔ m ∈ c.all ∧ deadF c s m = false := by
  unfold sweepC
  rw [Con.mem_filter, Bool.not_eq_true']
theorem live_later {c : Con} {s : Stp} {m : Mu} (h : stC s m.at_ < 0) : deadF c s m = false := by
  unfold deadF
  rw [decide_eq_true h]
  rfl
/-- A value that one sees at a tick from the floor's on isn't expired at the floor. -/
theorem seen_fresh {m : Mu} {phys t : Int} (h : seenB m phys = true) (ht : t ≤ phys) : m.kind = 1 ∧ expF m t = false := by
  unfold seenB at h
  rw [Bool.and_eq_true, decide_eq_true_eq, Bool.or_eq_true, decide_eq_true_eq, decide_eq_true_eq] at h
  refine ⟨h.1, ?_⟩
  unfold expF
  cases e : decide (m.kind = 1) && (decide (0 < m.expiry) && decide (m.expiry ≤ t)) with
  | false => rfl
  | true =>
    rw [Bool.and_eq_true, Bool.and_eq_true, decide_eq_true_eq, decide_eq_true_eq, decide_eq_true_eq] at e
    omega
theorem st_p {a b : Stp} (h : ¬ stC b a < 0) : a.p ≤ b.p := by
  apply Int.not_lt.1
  intro hp
  apply h
  have e : cmpI b.p a.p = -1 := by unfold cmpI; rw [if_pos hp]
  unfold stC
  simp only [orL, e]
  rw [if_neg (by decide)]
  decide
/-- What one sees stays behind a sweep that knows no more than all that came. -/
theorem stays {c : Con} {s : Stp} {m : Mu} {phys : Int} (hs : seenB m phys = true) (hp : s.p ≤ phys) (hsup : m.table = 2 → supF c m.key m.at_ = false) : deadF c s m = false := by
  obtain ⟨hk, he⟩ := seen_fresh hs hp
  unfold deadF
  rw [he, decide_eq_true hk]
  by_cases h2 : m.table = 2
  · rw [hsup h2]; simp
  · rw [decide_eq_false h2]; simp
theorem sup_mono {c : Con} {p : Mu → Bool} {key : ByteArray} {s : Stp} (h : supF c key s = false) : supF (c.filter p) key s = false := by
  unfold supF at *
  rw [List.any_eq_false] at *
  intro y hy
  exact h y (List.mem_filter.1 hy).1
theorem mem_shown {c : Con} {t phys : Int} {m : Mu} (h : m ∈ shownF c t phys) : m ∈ c.all := by
  unfold shownF liveF at h
  have h1 := (List.mem_filter.1 h).1
  split at h1
  · exact Con.mem_all.2 (Or.inr (Or.inr (List.mem_filter.1 h1).1))
  · exact Con.mem_all.2 (Or.inl (List.mem_filter.1 h1).1)
/-- NOTHING RISES. -/
theorem sweep_keeps (l later : List Mu) (first floor : Stp) (t phys : Int) (hf : ¬ stC floor first < 0) (hp : floor.p ≤ phys) (hl : ∀ m ∈ later, stC floor m.at_ < 0) :
    shownF (leftOf ((sweepC (sweepC (leftOf l) first) floor).all ++ later)) t phys = shownF (leftOf (l ++ later)) t phys := by
  have hR := (leftOf_both l).1
  have hfp : first.p ≤ floor.p := st_p hf
  have hfl : stC first floor ≤ 0 := (stO.le_of).1 hf
  have inl : ∀ {m}, m ∈ (sweepC (sweepC (leftOf l) first) floor).all → Fits l m := fun hm => by
    have h1 := (mem_sweepC.1 (mem_sweepC.1 hm).1).1
    exact hR.in_all h1
  refine shown_same fun m => ?_
  constructor
  · rintro ⟨hm, h1, h2, h3⟩
    have hm' : Fits (l ++ later) m := by
      rw [fits_append] at hm ⊢
      exact hm.imp (fun g => inl g.1) id
    refine ⟨hm', h1, h2, fun y0 hy0 => ?_⟩
    cases e : hiddenB m y0 with
    | false => rfl
    | true =>
      exfalso
      rcases (fits_append y0).1 hy0 with hy | hy
      · obtain ⟨y, hy1, hy2, hy3⟩ := hidden_left hm.2 hy e
        have hyl : Fits l y := hR.in_all hy1
        by_cases hs : y ∈ (sweepC (sweepC (leftOf l) first) floor).all
        · have := h3 y ((fits_append y).2 (Or.inl ⟨hs, hyl.2⟩))
          rw [hy2] at this; exact absurd this (by decide)
        · -- y was swept
          have hyat : stC y.at_ floor ≤ 0 := by
            by_cases hd1 : deadF (leftOf l) first y = true
            · have : ¬ stC first y.at_ < 0 := fun g => by rw [live_later g] at hd1; cases hd1
              exact stO.le_le ((stO.le_of).1 this) hfl
            · by_cases hd2 : deadF (sweepC (leftOf l) first) floor y = true
              · have : ¬ stC floor y.at_ < 0 := fun g => by rw [live_later g] at hd2; cases hd2
                exact (stO.le_of).1 this
              · exact absurd (mem_sweepC.2 ⟨mem_sweepC.2 ⟨hy1, by simpa using hd1⟩, by simpa using hd2⟩) hs
          have hmat : stC m.at_ floor ≤ 0 := stO.le_le (hidden_at hyl.2 hy2) hyat
          have hmk : m ∈ (sweepC (sweepC (leftOf l) first) floor).all := by
            rcases List.mem_append.1 hm.1 with g | g
            · exact g
            · have := hl m g
              have := (stO.swap floor m.at_).1 this
              omega
          have hmd := mem_sweepC.1 hmk
          have hmd1 := mem_sweepC.1 hmd.1
          by_cases h22 : m.table = 2
          · -- superseded: it would have been swept together with y, or ahead of it
            have e2 := hy2
            unfold hiddenB at e2
            rw [Bool.and_eq_true, decide_eq_true_eq, if_pos h22, Bool.and_eq_true] at e2
            have hyt : y.table = 2 := e2.1 ▸ h22
            have hlt : stC m.at_ y.at_ < 0 := right_over hyl.2 e2.2.2
            have dead_of : ∀ (c : Con) (s : Stp), y ∈ c.sibs → ¬ stC s y.at_ < 0 → deadF c s m = true := fun c s hyc hs' => by
              have hms : ¬ stC s m.at_ < 0 := fun g => hs' (stO.trans _ _ _ g hlt)
              have hsup : supF c m.key m.at_ = true := List.any_eq_true.2 ⟨y, hyc, by unfold supM; rw [Bool.and_eq_true]; exact e2.2⟩
              unfold deadF
              rw [decide_eq_false hms, decide_eq_true h22, hsup]
              simp
            have hysib : y ∈ (leftOf l).sibs := (hR.sibs y).2 ⟨hyl, hyt⟩
            by_cases hd1 : deadF (leftOf l) first y = true
            · have g : ¬ stC first y.at_ < 0 := fun g => by rw [live_later g] at hd1; cases hd1
              have := dead_of _ _ hysib g
              rw [hmd1.2] at this; cases this
            · have hy1c : y ∈ (sweepC (leftOf l) first).sibs := List.mem_filter.2 ⟨hysib, by simpa using hd1⟩
              have g : ¬ stC floor y.at_ < 0 := fun g => by have := (stO.swap floor y.at_).1 g; omega
              have := dead_of _ _ hy1c g
              rw [hmd.2] at this; cases this
          · -- it is a cell that is left: nothing hides it
            have hmsh : m ∈ shownF (leftOf l) t phys := by
              have hmc : m ∈ (leftOf l).cells := by
                rcases Con.mem_all.1 hmd1.1 with g | g | g
                · exact g
                · have := (hR.wipes m g).2.2
                  have := (seen_fresh h2 (Int.le_refl phys)).1
                  omega
                · exact absurd ((hR.sibs m).1 g).2 h22
              unfold shownF liveF
              rw [if_neg (by rw [← h1]; exact h22)]
              exact List.mem_filter.2 ⟨List.mem_filter.2 ⟨hmc, decide_eq_true h1⟩, h2⟩
            have := ((shown_iff l t phys m).1 hmsh).2.2.2 y hyl
            rw [hy2] at this; cases this
      · have := h3 y0 ((fits_append y0).2 (Or.inr hy))
        rw [e] at this; cases this
  · rintro ⟨hm, h1, h2, h3⟩
    refine ⟨?_, h1, h2, fun y hy => ?_⟩
    · rw [fits_append] at hm ⊢
      rcases hm with hm | hm
      · left
        have hsh : m ∈ shownF (leftOf l) t phys := (shown_iff l t phys m).2 ⟨hm, h1, h2, fun y hy => h3 y ((fits_append y).2 (Or.inl hy))⟩
        have hsup : m.table = 2 → supF (leftOf l) m.key m.at_ = false := fun h22 => by
          cases e : supF (leftOf l) m.key m.at_ with
          | false => rfl
          | true =>
            obtain ⟨y, hy, e1, e2, e3⟩ := (sup_iff _ _ _).1 e
            have := h3 y ((fits_append y).2 (Or.inl hy))
            unfold hiddenB at this
            rw [if_pos h22, h22, e1, (key_beq (a := y.key) (b := m.key)).2 e2, e3] at this
            exact absurd this (by decide)
        refine ⟨mem_sweepC.2 ⟨mem_sweepC.2 ⟨mem_shown hsh, stays h2 (by omega) hsup⟩, stays h2 hp fun h22 => sup_mono (hsup h22)⟩, hm.2⟩
      · exact Or.inr hm
    · rw [fits_append] at hy
      exact h3 y ((fits_append y).2 (hy.imp (fun g => inl g.1) id))
end Go.Proofs.YtipoeigehabbmaaGreatDoor.Mut
