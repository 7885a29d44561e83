/- Tries in plain Lean: one text more, one text less: what the nodes say behind it. -/
import Derived.Test.YtehoanpjlinfaaaTriPlain
namespace Go.Proofs.Ytehoanpjlinfaaa.Tri

theorem Rep.dom : ∀ {d : Nat} {σ : Store} {b : Nat} {D : Dict}, Rep d σ b D → ∀ k ∈ foot d σ b, σ k ≠ none
  | 0, σ, b, D, h, k, hk => by
    obtain ⟨x, h1, _⟩ := h
    have : k = b := by simpa [foot] using hk
    subst this; rw [h1]; simp
  | d + 1, σ, b, D, h, k, hk => by
    obtain ⟨x, h1, h2, h3, h4, h5⟩ := h
    rw [foot_succ h1] at hk
    rcases List.mem_cons.1 hk with rfl | hk
    · rw [h1]; simp
    · obtain ⟨c, hc, hk⟩ := List.mem_flatMap.1 hk
      obtain ⟨i, hi⟩ := List.getElem?_of_mem hc
      obtain ⟨r, hr⟩ := h2.rune_at hi
      exact (h5 i r c hr hi).dom k hk

/-- A leaf without a number. -/
structure Bare (y : Node) : Prop where
  runes : y.runes = []
  below : y.below = []
  is : y.is = false
theorem Bare.ok {y : Node} (h : Bare y) : y.Ok := ⟨by rw [h.runes]; exact List.Pairwise.nil, by rw [h.runes, h.below]; rfl⟩
theorem Rep.bare {σ : Store} {c : Nat} {y : Node} (h : σ c = some y) (hy : Bare y) : ∀ d, Rep d σ c emp
  | 0 => ⟨y, h, hy.ok, by simp [Node.own, hy.is, emp], hy.runes, fun _ _ => rfl⟩
  | d + 1 => ⟨y, h, hy.ok, by simp [Node.own, hy.is, emp], by simp [hy.runes, emp], by simp [hy.runes]⟩
theorem foot_bare {σ : Store} {c : Nat} {y : Node} (h : σ c = some y) (hy : Bare y) : ∀ d, foot d σ c = [c]
  | 0 => rfl
  | d + 1 => by rw [foot_succ h, hy.below]; rfl

/-- A node's own number is turned. -/
theorem Rep.own_set {d : Nat} {σ τ : Store} {b : Nat} {D E : Dict} {x y : Node} (h : Rep d σ b D) (hn : (foot d σ b).Nodup) (hx : σ b = some x) (hy : τ b = some y) (hr : y.runes = x.runes) (hb : y.below = x.below) (ho : y.own = E []) (hf : ∀ k, k ≠ b → τ k = σ k)
    (hD : ∀ r k, E (r :: k) = D (r :: k)) : Rep d τ b E ∧ foot d τ b = foot d σ b := by
  cases d with
  | zero =>
    obtain ⟨x', h1, h2, h3, h4, h5⟩ := h
    cases hx.symm.trans h1
    exact ⟨⟨y, hy, ⟨by rw [hr]; exact h2.rise, by rw [hr, hb]; exact h2.same⟩, ho, by rw [hr, h4], fun r k => by rw [hD, h5]⟩, rfl⟩
  | succ d =>
    obtain ⟨x', h1, h2, h3, h4, h5⟩ := h
    cases hx.symm.trans h1
    rw [foot_succ hx, List.nodup_cons] at hn
    have hfr : ∀ c ∈ x.below, ∀ k ∈ foot d σ c, τ k = σ k := fun c hc k hk => hf k fun e => hn.1 (by subst e; exact List.mem_flatMap.2 ⟨c, hc, hk⟩)
    refine ⟨⟨y, hy, ⟨by rw [hr]; exact h2.rise, by rw [hr, hb]; exact h2.same⟩, ho, fun r => by rw [hr, h4]; simp only [hD], fun i r c hi hc => ?_⟩, ?_⟩
    · rw [hr] at hi; rw [hb] at hc
      rw [show sub E r = sub D r from funext fun k => hD r k]
      exact (h5 i r c hi hc).frame fun k hk => hfr c (List.mem_of_getElem? hc) k hk
    · rw [foot_succ hy, foot_succ hx, hb]
      congr 1
      exact flatMap_same fun c hc => foot_frame d σ τ c (hfr c hc)

/-- One node below is turned. -/
theorem Rep.turn {d : Nat} {σ τ : Store} {b : Nat} {E : Dict} {x : Node} {i : Nat} {r : Int} {c : Nat} (hok : x.Ok) (hn : (b :: x.below.flatMap (foot d σ)).Nodup) (hx : τ b = some x) (ho : x.own = E []) (hi : x.runes[i]? = some r) (hc : x.below[i]? = some c)
    (hdom : ∀ e ∈ x.below, ∀ k ∈ foot d σ e, σ k ≠ none) (hσb : σ b ≠ none) (hkids : ∀ j q e, j ≠ i → x.runes[j]? = some q → x.below[j]? = some e → Rep d σ e (sub E q))
    (hk : Rep d τ c (sub E r)) (hkn : (foot d τ c).Nodup) (hfresh : ∀ k ∈ foot d τ c, k ∈ foot d σ c ∨ σ k = none) (hfr : ∀ k, k ∉ foot d σ c → k ≠ b → σ k ≠ none → τ k = σ k) (hm : ∀ q, q ∈ x.runes ↔ ∃ k, E (q :: k) ≠ none) :
    Rep (d + 1) τ b E ∧ (foot (d + 1) τ b).Nodup ∧ ∀ k ∈ foot (d + 1) τ b, k ∈ b :: x.below.flatMap (foot d σ) ∨ σ k = none := by
  have hn' := List.nodup_cons.1 hn
  have hne : ∀ e ∈ x.below, ∀ k ∈ foot d σ e, k ≠ b := fun e he k hk h => hn'.1 (by subst h; exact List.mem_flatMap.2 ⟨e, he, hk⟩)
  have hsame : ∀ j e, j ≠ i → x.below[j]? = some e → ∀ k ∈ foot d σ e, τ k = σ k := fun j e hj he k hk =>
    hfr k (nodup_sub hn'.2 he hc hj k hk) (hne e (List.mem_of_getElem? he) k hk) (hdom e (List.mem_of_getElem? he) k hk)
  have hft : ∀ j e, j ≠ i → x.below[j]? = some e → foot d τ e = foot d σ e := fun j e hj he => foot_frame d σ τ e (hsame j e hj he)
  have hsub : ∀ k ∈ foot (d + 1) τ b, k ∈ b :: x.below.flatMap (foot d σ) ∨ σ k = none := fun k hk => by
    rw [foot_succ hx] at hk
    rcases List.mem_cons.1 hk with rfl | hk
    · exact Or.inl (by simp)
    · obtain ⟨e, he, hk⟩ := List.mem_flatMap.1 hk
      obtain ⟨j, hj⟩ := List.getElem?_of_mem he
      by_cases hji : j = i
      · subst hji
        cases hc.symm.trans hj
        exact (hfresh k hk).imp (fun h => List.mem_cons_of_mem _ (List.mem_flatMap.2 ⟨c, he, h⟩)) id
      · rw [hft j e hji hj] at hk
        exact Or.inl (List.mem_cons_of_mem _ (List.mem_flatMap.2 ⟨e, he, hk⟩))
  refine ⟨⟨x, hx, hok, ho, hm, fun j q e hj he => ?_⟩, ?_, hsub⟩
  · by_cases hji : j = i
    · subst hji
      cases hc.symm.trans he
      cases hi.symm.trans hj
      exact hk
    · exact (hkids j q e hji hj he).frame fun k hk => hsame j e hji he k hk
  · rw [foot_succ hx, List.nodup_cons]
    constructor
    · intro hb
      obtain ⟨e, he, hk'⟩ := List.mem_flatMap.1 hb
      obtain ⟨j, hj⟩ := List.getElem?_of_mem he
      by_cases hji : j = i
      · subst hji
        cases hc.symm.trans hj
        rcases hfresh b hk' with h | h
        · exact hne c he b h rfl
        · exact hσb h
      · rw [hft j e hji hj] at hk'
        exact hne e he b hk' rfl
    · exact nodup_turn hn'.2 hc hft hkn fun k hk => (hfresh k hk).imp id fun h e he hk' => hdom e he k hk' h

/-- A node has one below for a rune: there, or made. -/
def Grows (σ : Store) (b : Nat) (r : Int) (τ : Store) (c : Nat) : Prop :=
  (∃ x, σ b = some x ∧ x.to r = some c ∧ τ = σ) ∨
  (∃ x x1 i y, σ b = some x ∧ r ∉ x.runes ∧ x1.Ok ∧ i ≤ x.runes.length ∧ x1.runes = x.runes.take i ++ r :: x.runes.drop i ∧ x1.below = x.below.take i ++ c :: x.below.drop i ∧ x1.n = x.n ∧ x1.is = x.is ∧ σ c = none ∧ Bare y ∧ τ = (σ.set b x1).set c y)

/-- A text's number is laid, from a node on. -/
def PutRel : Store → Nat → Tx → Int → Store → Bool → Prop
  | σ, b, [], n, τ, q => ∃ x x1, σ b = some x ∧ x1.runes = x.runes ∧ x1.below = x.below ∧ x1.n = n ∧ x1.is = true ∧ τ = σ.set b x1 ∧ q = x.is
  | σ, b, r :: s, n, τ, q => ∃ ρ c, Grows σ b r ρ c ∧ PutRel ρ c s n τ q

theorem ins_sub_same (D : Dict) (r : Int) (s : Tx) (n : Int) : sub (ins D (r :: s) n) r = ins (sub D r) s n := by funext k; simp [sub, ins]
theorem ins_sub_other (D : Dict) {r q : Int} (h : q ≠ r) (s : Tx) (n : Int) : sub (ins D (r :: s) n) q = sub D q := by funext k; simp [sub, ins, h]

theorem Rep.put {n : Int} {q : Bool} : ∀ {s : Tx} {d : Nat} {σ τ : Store} {b : Nat} {D : Dict}, Rep d σ b D → (foot d σ b).Nodup → s.length ≤ d → PutRel σ b s n τ q →
    Rep d τ b (ins D s n) ∧ (foot d τ b).Nodup ∧ (∀ k ∈ foot d τ b, k ∈ foot d σ b ∨ σ k = none) ∧ (∀ k, k ∉ foot d σ b → σ k ≠ none → τ k = σ k) ∧ q = (D s).isSome
  | [], d, σ, τ, b, D, h, hn, _, hp => by
    obtain ⟨x, x1, hx, h1, h2, h3, h4, rfl, rfl⟩ := hp
    obtain ⟨a1, a2⟩ := h.own_set (E := ins D [] n) hn hx (Store.set_same _ _ _) h1 h2 (by simp [Node.own, h4, h3, ins]) (fun k hk => Store.set_other _ _ hk) (fun r k => by simp [ins])
    exact ⟨a1, by rw [a2]; exact hn, fun k hk => Or.inl (by rwa [a2] at hk), fun k hk _ => Store.set_other _ _ fun e => hk (by subst e; exact foot_self _ _ _), by
      obtain ⟨x', hx', _, ho⟩ := h.at
      cases hx.symm.trans hx'
      rw [← ho]; unfold Node.own; cases x.is <;> rfl⟩
  | r :: s, 0, _, _, _, _, _, _, hl, _ => by simp at hl
  | r :: s, d + 1, σ, τ, b, D, h, hn, hl, hp => by
    obtain ⟨ρ, c, hg, hp⟩ := hp
    have hdom := h.dom
    have h0 := h
    obtain ⟨x, hx, hok, hown, hm, hkids⟩ := h
    rw [foot_succ hx] at hn hdom
    have hn' := List.nodup_cons.1 hn
    have hl' : s.length ≤ d := by simpa using hl
    rcases hg with ⟨x', hx', hto, rfl⟩ | ⟨x', x1, i, y, hx', hr, hok1, hi, hr1, hb1, hn1, his1, hc0, hy, rfl⟩
    · cases hx.symm.trans hx'
      obtain ⟨i, hi, hc⟩ := (hok.to_iff r c).1 hto
      have hcm := List.mem_of_getElem? hc
      obtain ⟨p1, p2, p3, p4, p5⟩ := (hkids i r c hi hc).put (nodup_one hn'.2 hc) hl' hp
      have hbc : b ∉ foot d ρ c := fun e => hn'.1 (List.mem_flatMap.2 ⟨c, hcm, e⟩)
      have hτb : τ b = some x := (p4 b hbc (by rw [hx]; simp)).trans hx
      have T := Rep.turn (E := ins D (r :: s) n) hok hn hτb (by rw [hown]; simp [ins]) hi hc (fun e he k hk => hdom k (List.mem_cons_of_mem _ (List.mem_flatMap.2 ⟨e, he, hk⟩))) (by rw [hx]; simp)
        (fun j q e hji hj he => by rw [ins_sub_other D (show q ≠ r from fun hq => hji (rise_inj hok.rise hj (by rw [hq]; exact hi)))]; exact hkids j q e hj he)
        (by rw [ins_sub_same]; exact p1) p2 p3 (fun k hk _ hd => p4 k hk hd) (fun q => by
          rw [hm]
          by_cases hq : q = r
          · subst hq
            exact ⟨fun _ => ⟨s, by simp [ins]⟩, fun _ => (hm q).1 (List.mem_of_getElem? hi)⟩
          · simp [ins, hq])
      refine ⟨T.1, T.2.1, fun k hk => ?_, fun k hk hd => p4 k (fun e => hk ?_) hd, p5⟩
      · rw [foot_succ hx]; exact T.2.2 k hk
      · rw [foot_succ hx]; exact List.mem_cons_of_mem _ (List.mem_flatMap.2 ⟨c, hcm, e⟩)
    · cases hx.symm.trans hx'
      have hbc : b ≠ c := fun e => by rw [← e, hx] at hc0; cases hc0
      have hρc : ((σ.set b x1).set c y) c = some y := Store.set_same _ _ _
      have hρb : ((σ.set b x1).set c y) b = some x1 := by rw [Store.set_other _ _ hbc]; exact Store.set_same _ _ _
      have hρo : ∀ k, k ≠ b → k ≠ c → ((σ.set b x1).set c y) k = σ k := fun k h1 h2 => by rw [Store.set_other _ _ h2, Store.set_other _ _ h1]
      generalize (σ.set b x1).set c y = ρ at *
      have hkf : ∀ e ∈ x.below, ∀ k ∈ foot d σ e, k ≠ b ∧ k ≠ c := fun e he k hk =>
        ⟨fun hh => hn'.1 (by subst hh; exact List.mem_flatMap.2 ⟨e, he, hk⟩), fun hh => hdom k (List.mem_cons_of_mem _ (List.mem_flatMap.2 ⟨e, he, hk⟩)) (by rw [hh]; exact hc0)⟩
      have hft : ∀ e ∈ x.below, foot d ρ e = foot d σ e := fun e he => foot_frame d σ ρ e fun k hk => hρo k (hkf e he k hk).1 (hkf e he k hk).2
      obtain ⟨p1, p2, p3, p4, p5⟩ := (Rep.bare hρc hy d).put (by rw [foot_bare hρc hy]; simp) hl' hp
      rw [foot_bare hρc hy] at p3 p4
      have hτb : τ b = some x1 := (p4 b (by simpa using hbc) (by rw [hρb]; simp)).trans hρb
      have hsubr : sub D r = emp := by funext k; exact h0.none_at hx hr k
      have hilt : (x.below.take i).length = i := by rw [List.length_take, hok.same]; omega
      have hilr : (x.runes.take i).length = i := by rw [List.length_take]; omega
      have hi1 : x1.runes[i]? = some r := by rw [hr1, List.getElem?_append_right (by rw [hilr]; exact Nat.le_refl _), hilr]; simp
      have hc1 : x1.below[i]? = some c := by rw [hb1, List.getElem?_append_right (by rw [hilt]; exact Nat.le_refl _), hilt]; simp
      have hperm : x1.below.Perm (c :: x.below) := by
        rw [hb1]
        exact (List.perm_middle).trans (by rw [List.take_append_drop])
      have hmem : ∀ e, e ∈ x1.below → e = c ∨ e ∈ x.below := fun e he => by have := hperm.mem_iff.1 he; simpa using this
      have hbel : ∀ j q e, j ≠ i → x1.runes[j]? = some q → x1.below[j]? = some e → ∃ j', x.runes[j']? = some q ∧ x.below[j']? = some e := fun j q e hji h1 h2 => by
        rw [hr1] at h1; rw [hb1] at h2
        rcases Nat.lt_or_ge j i with hlt | hge
        · rw [List.getElem?_append_left (by rw [hilr]; exact hlt), List.getElem?_take_of_lt hlt] at h1
          rw [List.getElem?_append_left (by rw [hilt]; exact hlt), List.getElem?_take_of_lt hlt] at h2
          exact ⟨j, h1, h2⟩
        · rw [List.getElem?_append_right (by rw [hilr]; exact hge), hilr] at h1
          rw [List.getElem?_append_right (by rw [hilt]; exact hge), hilt] at h2
          obtain ⟨m, hm'⟩ : ∃ m, j - i = m + 1 := ⟨j - i - 1, by omega⟩
          rw [hm', List.getElem?_cons_succ, List.getElem?_drop] at h1 h2
          exact ⟨i + m, h1, h2⟩
      have hnρ : (b :: x1.below.flatMap (foot d ρ)).Nodup := by
        have e1 : (x1.below.flatMap (foot d ρ)).Perm ((c :: x.below).flatMap (foot d ρ)) := hperm.flatMap_right _
        rw [List.nodup_cons, e1.nodup_iff, e1.mem_iff, List.flatMap_cons, foot_bare hρc hy, flatMap_same hft]
        refine ⟨fun hh => ?_, ?_⟩
        · rcases List.mem_append.1 hh with hh | hh
          · exact hbc (by simpa using hh)
          · exact hn'.1 hh
        · rw [List.nodup_append]
          refine ⟨by simp, hn'.2, fun k hk z hz e => ?_⟩
          have hk : k = c := by simpa using hk
          subst hk; subst e
          exact hdom k (List.mem_cons_of_mem _ hz) hc0
      have hdomρ : ∀ e ∈ x1.below, ∀ k ∈ foot d ρ e, ρ k ≠ none := fun e he k hk => by
        rcases hmem e he with rfl | he
        · rw [foot_bare hρc hy] at hk
          have : k = e := by simpa using hk
          subst this; rw [hρc]; simp
        · rw [hft e he] at hk
          rw [hρo k (hkf e he k hk).1 (hkf e he k hk).2]
          exact hdom k (List.mem_cons_of_mem _ (List.mem_flatMap.2 ⟨e, he, hk⟩))
      have T := Rep.turn (E := ins D (r :: s) n) hok1 hnρ hτb (by unfold Node.own; rw [hn1, his1]; exact hown) hi1 hc1 hdomρ (by rw [hρb]; simp)
        (fun j q e hji hj he => by
          obtain ⟨j', a1, a2⟩ := hbel j q e hji hj he
          rw [ins_sub_other D (fun hq => hr (by subst hq; exact List.mem_of_getElem? a1))]
          exact (hkids j' q e a1 a2).frame fun k hk => hρo k (hkf e (List.mem_of_getElem? a2) k hk).1 (hkf e (List.mem_of_getElem? a2) k hk).2)
        (by rw [ins_sub_same, hsubr]; exact p1) p2 (fun k hk => by rw [foot_bare hρc hy]; exact p3 k hk) (fun k hk _ hd => p4 k (by rwa [foot_bare hρc hy] at hk) hd) (fun q => by
          have e1 : q ∈ x1.runes ↔ q = r ∨ q ∈ x.runes := by
            rw [hr1, List.mem_append, List.mem_cons]
            have := List.take_append_drop i x.runes
            conv => rhs; rw [← this, List.mem_append]
            constructor
            · rintro (h | h | h)
              · exact Or.inr (Or.inl h)
              · exact Or.inl h
              · exact Or.inr (Or.inr h)
            · rintro (h | h | h)
              · exact Or.inr (Or.inl h)
              · exact Or.inl h
              · exact Or.inr (Or.inr h)
          rw [e1, hm]
          by_cases hq : q = r
          · subst hq
            exact ⟨fun _ => ⟨s, by simp [ins]⟩, fun _ => Or.inl rfl⟩
          · simp [ins, hq])
      have hρσ : ∀ k, ρ k = none → σ k = none := fun k hk => by
        by_cases h1 : k = b
        · subst h1; rw [hρb] at hk; cases hk
        by_cases h2 : k = c
        · subst h2; exact hc0
        rw [hρo k h1 h2] at hk; exact hk
      refine ⟨T.1, T.2.1, fun k hk => ?_, fun k hk hd => ?_, by rw [p5, h0.none_at hx hr s]; rfl⟩
      · rw [foot_succ hx]
        rcases T.2.2 k hk with h | h
        · rcases List.mem_cons.1 h with rfl | h
          · exact Or.inl (by simp)
          · obtain ⟨e, he, hk⟩ := List.mem_flatMap.1 h
            rcases hmem e he with rfl | he
            · rw [foot_bare hρc hy] at hk
              have : k = e := by simpa using hk
              subst this; exact Or.inr hc0
            · rw [hft e he] at hk
              exact Or.inl (List.mem_cons_of_mem _ (List.mem_flatMap.2 ⟨e, he, hk⟩))
        · exact Or.inr (hρσ k h)
      · rw [foot_succ hx] at hk
        have hkb : k ≠ b := fun e => hk (by simp [e])
        have hkc : k ≠ c := fun e => hd (by rw [e]; exact hc0)
        rw [p4 k (by simpa using hkc) (by rw [hρo k hkb hkc]; exact hd), hρo k hkb hkc]

/-! One text less: its number is gone; then what is bare is taken away, from below. -/
theorem flatMap_sub (f : Nat → List Nat) {l m : List Nat} (h : l.Sublist m) : (l.flatMap f).Sublist (m.flatMap f) := by
  induction h with
  | slnil => exact List.Sublist.refl _
  | cons a _ ih => rw [List.flatMap_cons]; exact ih.trans (List.sublist_append_right _ _)
  | cons_cons a _ ih => rw [List.flatMap_cons, List.flatMap_cons]; exact List.Sublist.append (List.Sublist.refl _) ih
/-- D, and a way that may be bare. -/
def RepC : Nat → Store → Nat → Dict → Tx → Prop
  | d, σ, b, D, [] => Rep d σ b D
  | 0, _, _, _, _ :: _ => False
  | d + 1, σ, b, D, r :: s => ∃ x, σ b = some x ∧ x.Ok ∧ x.own = D [] ∧ (∀ q, q ∈ x.runes ↔ q = r ∨ ∃ k, D (q :: k) ≠ none) ∧
      ∀ (i : Nat) (q : Int) (c : Nat), x.runes[i]? = some q → x.below[i]? = some c → if q = r then RepC d σ c (sub D r) s else Rep d σ c (sub D q)

theorem del_sub_same (D : Dict) (r : Int) (s : Tx) : sub (del D (r :: s)) r = del (sub D r) s := by funext k; simp [sub, del]
theorem del_sub_other (D : Dict) {r q : Int} (h : q ≠ r) (s : Tx) : sub (del D (r :: s)) q = sub D q := by funext k; simp [sub, del, h]

theorem Rep.clear : ∀ {s : Tx} {d : Nat} {σ : Store} {b c : Nat} {D : Dict} {x x1 : Node}, Rep d σ b D → (foot d σ b).Nodup → findF σ b s = some c → σ c = some x → x.is = true → x1.runes = x.runes → x1.below = x.below → x1.is = false →
    RepC d (σ.set c x1) b (del D s) s ∧ foot d (σ.set c x1) b = foot d σ b ∧ c ∈ foot d σ b
  | [], d, σ, b, c, D, x, x1, h, hn, hf, hx, his, h1, h2, h3 => by
    have hbc : b = c := by simpa [findF] using hf
    subst hbc
    obtain ⟨a1, a2⟩ := h.own_set (E := del D []) hn hx (Store.set_same _ _ _) h1 h2 (by simp [Node.own, h3, del]) (fun k hk => Store.set_other _ _ hk) (fun r k => by simp [del])
    refine ⟨?_, a2, foot_self _ _ _⟩
    cases d <;> exact a1
  | r :: s, d, σ, b, c, D, x, x1, h, hn, hf, hx, his, h1, h2, h3 => by
    obtain ⟨z, hz, hzok, _⟩ := h.at
    simp only [findF, hz] at hf
    cases hto : z.to r with
    | none => rw [hto] at hf; simp at hf
    | some e =>
      rw [hto] at hf
      obtain ⟨d, rfl, _⟩ := h.step hz hto
      obtain ⟨x', hx', hok, hown, hm, hkids⟩ := h
      cases hz.symm.trans hx'
      obtain ⟨i, hi, he⟩ := (hok.to_iff r e).1 hto
      rw [foot_succ hz] at hn ⊢
      have hn' := List.nodup_cons.1 hn
      have hem := List.mem_of_getElem? he
      obtain ⟨q1, q2, q3⟩ := (hkids i r e hi he).clear (nodup_one hn'.2 he) hf hx his h1 h2 h3
      have hbc : b ≠ c := fun hh => hn'.1 (by rw [hh]; exact List.mem_flatMap.2 ⟨e, hem, q3⟩)
      have hsb : (σ.set c x1) b = some z := by rw [Store.set_other _ _ hbc]; exact hz
      have hoth : ∀ j e', j ≠ i → z.below[j]? = some e' → ∀ k ∈ foot d σ e', (σ.set c x1) k = σ k := fun j e' hj he' k hk =>
        Store.set_other _ _ fun hh => nodup_sub hn'.2 he' he hj k hk (by rw [hh]; exact q3)
      refine ⟨⟨z, hsb, hok, by rw [hown]; simp [del], fun q => ?_, fun j q e' hj he' => ?_⟩, ?_, ?_⟩
      · rw [hm]
        by_cases hq : q = r
        · subst hq
          exact ⟨fun _ => Or.inl rfl, fun _ => (hm q).1 (List.mem_of_getElem? hi)⟩
        · simp [del, hq]
      · by_cases hji : j = i
        · subst hji
          cases hi.symm.trans hj
          cases he.symm.trans he'
          rw [if_pos rfl, del_sub_same]
          exact q1
        · have hq : q ≠ r := fun hh => hji (rise_inj hok.rise hj (by rw [hh]; exact hi))
          rw [if_neg hq, del_sub_other D hq]
          exact (hkids j q e' hj he').frame (hoth j e' hji he')
      · rw [foot_succ hsb]
        congr 1
        refine flatMap_same fun e' he' => ?_
        obtain ⟨j, hj⟩ := List.getElem?_of_mem he'
        by_cases hji : j = i
        · subst hji
          cases he.symm.trans hj
          exact q2
        · exact foot_frame d σ _ e' (hoth j e' hji hj)
      · exact List.mem_cons_of_mem _ (List.mem_flatMap.2 ⟨e, hem, q3⟩)

theorem RepC.dom : ∀ {s : Tx} {d : Nat} {σ : Store} {b : Nat} {D : Dict}, RepC d σ b D s → ∀ k ∈ foot d σ b, σ k ≠ none
  | [], d, σ, b, D, h, k, hk => by cases d <;> exact Rep.dom h k hk
  | r :: s, 0, _, _, _, h, _, _ => h.elim
  | r :: s, d + 1, σ, b, D, h, k, hk => by
    obtain ⟨x, h1, h2, h3, h4, h5⟩ := h
    rw [foot_succ h1] at hk
    rcases List.mem_cons.1 hk with rfl | hk
    · rw [h1]; simp
    · obtain ⟨c, hc, hk⟩ := List.mem_flatMap.1 hk
      obtain ⟨i, hi⟩ := List.getElem?_of_mem hc
      obtain ⟨q, hq⟩ := h2.rune_at hi
      have := h5 i q c hq hi
      by_cases e : q = r
      · rw [if_pos e] at this; exact this.dom k hk
      · rw [if_neg e] at this; exact this.dom k hk

/-- What a step down the way finds. -/
theorem RepC.step {r : Int} {s : Tx} {d : Nat} {σ : Store} {b : Nat} {D : Dict} (h : RepC d σ b D (r :: s)) (hn : (foot d σ b).Nodup) : ∃ (e : Nat) (x : Node) (i c : Nat), d = e + 1 ∧ σ b = some x ∧ x.Ok ∧ x.to r = some c ∧ x.runes[i]? = some r ∧ x.below[i]? = some c ∧ RepC e σ c (sub D r) s ∧ (foot e σ c).Nodup ∧ b ∉ foot e σ c := by
  cases d with
  | zero => exact h.elim
  | succ d =>
    obtain ⟨x, h1, h2, h3, h4, h5⟩ := h
    obtain ⟨i, hi⟩ := List.getElem?_of_mem ((h4 r).2 (Or.inl rfl))
    obtain ⟨c, hc⟩ := h2.below_at hi
    have h6 := h5 i r c hi hc
    rw [if_pos rfl] at h6
    rw [foot_succ h1] at hn
    have hn' := List.nodup_cons.1 hn
    exact ⟨d, x, i, c, rfl, h1, h2, (h2.to_iff r c).2 ⟨i, hi, hc⟩, hi, hc, h6, nodup_one hn'.2 hc, fun e => hn'.1 (List.mem_flatMap.2 ⟨c, List.mem_of_getElem? hc, e⟩)⟩

/-- Behind the step: what is below is as it should be, and so is the node: kept, or without what is bare. -/
theorem RepC.back {r : Int} {s : Tx} {d : Nat} {σ τ υ : Store} {b : Nat} {D : Dict} {x y x1 : Node} {i : Nat} {c : Nat} (h : RepC (d + 1) σ b D (r :: s)) (hn : (foot (d + 1) σ b).Nodup) (hx : σ b = some x) (hi : x.runes[i]? = some r) (hc : x.below[i]? = some c)
    (hk : Rep d τ c (sub D r)) (hkn : (foot d τ c).Nodup) (hsub : ∀ k ∈ foot d τ c, k ∈ foot d σ c) (hfr : ∀ k, k ∉ foot d σ c → τ k = σ k) (hy : τ c = some y)
    (hυ : if y.is = false ∧ y.runes = [] then x1.runes = x.runes.eraseIdx i ∧ x1.below = x.below.eraseIdx i ∧ x1.n = x.n ∧ x1.is = x.is ∧ υ = τ.set b x1 else υ = τ) :
    Rep (d + 1) υ b D ∧ (foot (d + 1) υ b).Nodup ∧ (∀ k ∈ foot (d + 1) υ b, k ∈ foot (d + 1) σ b) ∧ ∀ k, k ∉ foot (d + 1) σ b → υ k = σ k := by
  have hdom := h.dom
  obtain ⟨x', hx', hok, hown, hm, hkids⟩ := h
  cases hx.symm.trans hx'
  rw [foot_succ hx] at hn hdom ⊢
  have hn' := List.nodup_cons.1 hn
  have hcm := List.mem_of_getElem? hc
  have hbc : b ∉ foot d σ c := fun e => hn'.1 (List.mem_flatMap.2 ⟨c, hcm, e⟩)
  have hτb : τ b = some x := (hfr b hbc).trans hx
  obtain ⟨y', hy', hyok, hyown⟩ := hk.at
  cases hy.symm.trans hy'
  by_cases hcase : y.is = false ∧ y.runes = []
  · rw [if_pos hcase] at hυ
    obtain ⟨hr1, hb1, hn1, his1, rfl⟩ := hυ
    have hemp : ∀ k, D (r :: k) = none := fun k => by
      cases k with
      | nil =>
        have : y.own = D [r] := hyown
        rw [← this]; simp [Node.own, hcase.1]
      | cons q k => exact hk.none_at hy (by rw [hcase.2]; simp) k
    have hυb : (τ.set b x1) b = some x1 := Store.set_same _ _ _
    have hil : i < x.runes.length := (List.getElem?_eq_some_iff.1 hi).1
    have hok1 : x1.Ok := ⟨by rw [hr1]; exact hok.rise.sublist (List.eraseIdx_sublist _ _), by rw [hr1, hb1, List.length_eraseIdx, List.length_eraseIdx, hok.same]⟩
    have hidx : ∀ j q e, x1.runes[j]? = some q → x1.below[j]? = some e → ∃ j', j' ≠ i ∧ x.runes[j']? = some q ∧ x.below[j']? = some e := fun j q e h1 h2 => by
      rw [hr1, List.getElem?_eraseIdx] at h1
      rw [hb1, List.getElem?_eraseIdx] at h2
      by_cases hlt : j < i
      · rw [if_pos hlt] at h1 h2; exact ⟨j, by omega, h1, h2⟩
      · rw [if_neg hlt] at h1 h2; exact ⟨j + 1, by omega, h1, h2⟩
    have hmem1 : ∀ e ∈ x1.below, ∃ j, j ≠ i ∧ x.below[j]? = some e := fun e he => by
      obtain ⟨j, hj⟩ := List.getElem?_of_mem he
      obtain ⟨q, hq⟩ := hok1.rune_at hj
      obtain ⟨j', a1, _, a3⟩ := hidx j q e hq hj
      exact ⟨j', a1, a3⟩
    have hsame : ∀ j e, j ≠ i → x.below[j]? = some e → ∀ k ∈ foot d σ e, (τ.set b x1) k = σ k := fun j e hj he k hk => by
      rw [Store.set_other _ _ fun hh => hn'.1 (by subst hh; exact List.mem_flatMap.2 ⟨e, List.mem_of_getElem? he, hk⟩)]
      exact hfr k (nodup_sub hn'.2 he hc hj k hk)
    have hft : ∀ e ∈ x1.below, foot d (τ.set b x1) e = foot d σ e := fun e he => by
      obtain ⟨j, hj, hje⟩ := hmem1 e he
      exact foot_frame d σ _ e (hsame j e hj hje)
    have hsl : (x1.below.flatMap (foot d σ)).Sublist (x.below.flatMap (foot d σ)) := by
      rw [hb1]; exact flatMap_sub _ (List.eraseIdx_sublist _ _)
    refine ⟨⟨x1, hυb, hok1, by unfold Node.own; rw [hn1, his1]; exact hown, fun q => ?_, fun j q e hj he => ?_⟩, ?_, fun k hk => ?_, fun k hk => ?_⟩
    · constructor
      · intro hq
        have hq' : q ∈ x.runes := by rw [hr1] at hq; exact (List.eraseIdx_sublist _ _).mem hq
        rcases (hm q).1 hq' with rfl | hq''
        · obtain ⟨j, hj⟩ := List.getElem?_of_mem hq
          obtain ⟨e, he⟩ := hok1.below_at hj
          obtain ⟨j', a1, a2, _⟩ := hidx j q e hj he
          exact (a1 (rise_inj hok.rise a2 hi)).elim
        · exact hq''
      · rintro ⟨k, hk'⟩
        have hq : q ≠ r := fun e => hk' (by rw [e]; exact hemp k)
        obtain ⟨j, hj⟩ := List.getElem?_of_mem ((hm q).2 (Or.inr ⟨k, hk'⟩))
        have hji : j ≠ i := fun e => by subst e; rw [hi] at hj; cases hj; exact hq rfl
        rw [hr1]
        rcases Nat.lt_or_ge j i with hlt | hge
        · exact List.mem_of_getElem? (i := j) (by rw [List.getElem?_eraseIdx, if_pos hlt]; exact hj)
        · exact List.mem_of_getElem? (i := j - 1) (by rw [List.getElem?_eraseIdx, if_neg (by omega), show j - 1 + 1 = j by omega]; exact hj)
    · obtain ⟨j', a1, a2, a3⟩ := hidx j q e hj he
      have h6 := hkids j' q e a2 a3
      rw [if_neg (show ¬ q = r from fun hq => a1 (rise_inj hok.rise a2 (by rw [hq]; exact hi)))] at h6
      exact h6.frame (hsame j' e a1 a3)
    · rw [foot_succ hυb, flatMap_same hft, List.nodup_cons]
      exact ⟨fun e => hn'.1 (hsl.mem e), hn'.2.sublist hsl⟩
    · rw [foot_succ hυb, flatMap_same hft] at hk
      rcases List.mem_cons.1 hk with rfl | hk
      · simp
      · exact List.mem_cons_of_mem _ (hsl.mem hk)
    · rw [Store.set_other _ _ fun e => hk (by simp [e])]
      exact hfr k fun e => hk (List.mem_cons_of_mem _ (List.mem_flatMap.2 ⟨c, hcm, e⟩))
  · rw [if_neg hcase] at hυ
    subst hυ
    have T := Rep.turn (E := D) hok hn hτb hown hi hc (fun e he k hk => hdom k (List.mem_cons_of_mem _ (List.mem_flatMap.2 ⟨e, he, hk⟩))) (by rw [hx]; simp)
      (fun j q e hji hj he => by
        have h6 := hkids j q e hj he
        rwa [if_neg (show ¬ q = r from fun hq => hji (rise_inj hok.rise hj (by rw [hq]; exact hi)))] at h6)
      hk hkn (fun k hk => Or.inl (hsub k hk)) (fun k hk _ _ => hfr k hk) (fun q => by
        rw [hm]
        refine ⟨fun h => ?_, fun h => Or.inr h⟩
        rcases h with rfl | h
        · cases his : y.is with
          | true =>
            have : y.own = D [q] := hyown
            exact ⟨[], by rw [← this]; simp [Node.own, his]⟩
          | false =>
            cases hr : y.runes with
            | nil => exact (hcase ⟨his, hr⟩).elim
            | cons p l =>
              cases d with
              | zero =>
                obtain ⟨y', hy', _, _, h4, _⟩ := hk
                cases hy.symm.trans hy'
                rw [hr] at h4; cases h4
              | succ d =>
                obtain ⟨y', hy', _, _, h4, _⟩ := hk
                cases hy.symm.trans hy'
                obtain ⟨k, hk⟩ := (h4 p).1 (by rw [hr]; simp)
                exact ⟨p :: k, hk⟩
        · exact h)
    refine ⟨T.1, T.2.1, fun k hk => ?_, fun k hk => hfr k fun e => hk (List.mem_cons_of_mem _ (List.mem_flatMap.2 ⟨c, hcm, e⟩))⟩
    rw [foot_succ hτb] at hk
    rcases List.mem_cons.1 hk with rfl | hk
    · simp
    · obtain ⟨e, he, hk⟩ := List.mem_flatMap.1 hk
      obtain ⟨j, hj⟩ := List.getElem?_of_mem he
      refine List.mem_cons_of_mem _ (List.mem_flatMap.2 ⟨e, he, ?_⟩)
      by_cases hji : j = i
      · subst hji
        cases hc.symm.trans hj
        exact hsub k hk
      · rwa [foot_frame d σ υ e fun z hz => hfr z (nodup_sub hn'.2 hj hc hji z hz)] at hk
end Go.Proofs.Ytehoanpjlinfaaa.Tri
