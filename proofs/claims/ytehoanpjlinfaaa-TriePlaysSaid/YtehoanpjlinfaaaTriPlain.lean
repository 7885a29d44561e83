/- Tries in plain Lean: nodes in a store; what a node says of texts; one text more, one text less. -/
import Derived.Test.YtehoanpjlinfaaaBase
namespace Go.Proofs.Ytehoanpjlinfaaa.Tri

abbrev Tx := List Int
abbrev Dict := Tx → Option Int
def sub (D : Dict) (r : Int) : Dict := fun k => D (r :: k)
def ins (D : Dict) (s : Tx) (n : Int) : Dict := fun k => if k = s then some n else D k
def del (D : Dict) (s : Tx) : Dict := fun k => if k = s then none else D k
def emp : Dict := fun _ => none

structure Node where
  rv : Value
  bv : Value
  runes : List Int
  below : List Nat
  n : Int
  is : Bool

abbrev Store := Nat → Option Node
def Store.set (σ : Store) (b : Nat) (x : Node) : Store := fun k => if k = b then some x else σ k
@[simp] theorem Store.set_same (σ : Store) (b : Nat) (x : Node) : (σ.set b x) b = some x := if_pos rfl
theorem Store.set_other (σ : Store) {b k : Nat} (x : Node) (h : k ≠ b) : (σ.set b x) k = σ k := if_neg h

def Node.own (x : Node) : Option Int := if x.is then some x.n else none

/-- What is sound in a node by itself. -/
structure Node.Ok (x : Node) : Prop where
  rise : x.runes.Pairwise (· < ·)
  same : x.below.length = x.runes.length

/-- The node at b says just D; nothing of it is deeper than d. -/
def Rep : Nat → Store → Nat → Dict → Prop
  | 0, σ, b, D => ∃ x, σ b = some x ∧ x.Ok ∧ x.own = D [] ∧ x.runes = [] ∧ ∀ r k, D (r :: k) = none
  | d + 1, σ, b, D => ∃ x, σ b = some x ∧ x.Ok ∧ x.own = D [] ∧ (∀ r, r ∈ x.runes ↔ ∃ k, D (r :: k) ≠ none) ∧
      ∀ (i : Nat) (r : Int) (c : Nat), x.runes[i]? = some r → x.below[i]? = some c → Rep d σ c (sub D r)

/-- The nodes from one on. -/
def foot : Nat → Store → Nat → List Nat
  | 0, _, b => [b]
  | d + 1, σ, b => b :: (match σ b with
    | none => []
    | some x => x.below.flatMap (foot d σ))

theorem foot_self (d : Nat) (σ : Store) (b : Nat) : b ∈ foot d σ b := by cases d <;> simp [foot]
theorem foot_succ {d : Nat} {σ : Store} {b : Nat} {x : Node} (h : σ b = some x) : foot (d + 1) σ b = b :: x.below.flatMap (foot d σ) := by simp [foot, h]

theorem Rep.at {d : Nat} {σ : Store} {b : Nat} {D : Dict} (h : Rep d σ b D) : ∃ x, σ b = some x ∧ x.Ok ∧ x.own = D [] := by
  cases d with
  | zero => obtain ⟨x, h1, h2, h3, _⟩ := h; exact ⟨x, h1, h2, h3⟩
  | succ d => obtain ⟨x, h1, h2, h3, _⟩ := h; exact ⟨x, h1, h2, h3⟩

theorem flatMap_same {f g : Nat → List Nat} {l : List Nat} (h : ∀ x ∈ l, f x = g x) : l.flatMap f = l.flatMap g := by
  induction l with
  | nil => rfl
  | cons x l ih => rw [List.flatMap_cons, List.flatMap_cons, h x (by simp), ih fun y hy => h y (by simp [hy])]

/-- What is elsewhere doesn't matter. -/
theorem foot_frame : ∀ (d : Nat) (σ τ : Store) (b : Nat), (∀ k ∈ foot d σ b, τ k = σ k) → foot d τ b = foot d σ b
  | 0, _, _, _, _ => rfl
  | d + 1, σ, τ, b, h => by
    have hb := h b (foot_self _ _ _)
    cases hx : σ b with
    | none => rw [hx] at hb; simp [foot, hb, hx]
    | some x =>
      rw [hx] at hb
      rw [foot_succ hb, foot_succ hx]
      congr 1
      exact flatMap_same fun c hc => foot_frame d σ τ c fun k hk => h k (by rw [foot_succ hx]; exact List.mem_cons_of_mem _ (List.mem_flatMap.2 ⟨c, hc, hk⟩))
theorem Rep.frame : ∀ {d : Nat} {σ τ : Store} {b : Nat} {D : Dict}, Rep d σ b D → (∀ k ∈ foot d σ b, τ k = σ k) → Rep d τ b D
  | 0, σ, τ, b, D, h, hf => by
    obtain ⟨x, h1, h2⟩ := h
    exact ⟨x, (hf b (foot_self _ _ _)).trans h1, h2⟩
  | d + 1, σ, τ, b, D, h, hf => by
    obtain ⟨x, h1, h2, h3, h4, h5⟩ := h
    refine ⟨x, (hf b (foot_self _ _ _)).trans h1, h2, h3, h4, fun i r c hi hc => (h5 i r c hi hc).frame fun k hk => hf k ?_⟩
    rw [foot_succ h1]
    exact List.mem_cons_of_mem _ (List.mem_flatMap.2 ⟨c, List.mem_of_getElem? hc, hk⟩)

/-- Each rune has a node behind it. -/
theorem Node.Ok.below_at {x : Node} (h : x.Ok) {i : Nat} {r : Int} (hi : x.runes[i]? = some r) : ∃ c, x.below[i]? = some c := by
  have hlt := (List.getElem?_eq_some_iff.1 hi).1
  exact ⟨x.below[i]'(by rw [h.same]; exact hlt), List.getElem?_eq_getElem _⟩
theorem Node.Ok.rune_at {x : Node} (h : x.Ok) {i : Nat} {c : Nat} (hi : x.below[i]? = some c) : ∃ r, x.runes[i]? = some r := by
  have hlt := (List.getElem?_eq_some_iff.1 hi).1
  exact ⟨x.runes[i]'(by rw [← h.same]; exact hlt), List.getElem?_eq_getElem _⟩
theorem rise_inj {l : List Int} (h : l.Pairwise (· < ·)) {i j : Nat} {r : Int} (hi : l[i]? = some r) (hj : l[j]? = some r) : i = j := by
  obtain ⟨h1, e1⟩ := List.getElem?_eq_some_iff.1 hi
  obtain ⟨h2, e2⟩ := List.getElem?_eq_some_iff.1 hj
  rw [List.pairwise_iff_getElem] at h
  rcases Nat.lt_trichotomy i j with hl | hl | hl
  · have := h i j h1 h2 hl; omega
  · exact hl
  · have := h j i h2 h1 hl; omega

/-- The place of a rune among a node's. -/
def Node.to (x : Node) (r : Int) : Option Nat := (x.runes.zip x.below).lookup r
theorem lookup_zip {l : List Int} {m : List Nat} (hm : m.length = l.length) (hr : l.Pairwise (· < ·)) (r : Int) (c : Nat) : (l.zip m).lookup r = some c ↔ ∃ i : Nat, l[i]? = some r ∧ m[i]? = some c := by
  induction l generalizing m with
  | nil => simp
  | cons q l ih =>
    cases m with
    | nil => simp at hm
    | cons e m =>
      rw [List.zip_cons_cons, List.lookup_cons]
      have ih' := ih (m := m) (by simpa using hm) (List.pairwise_cons.1 hr).2
      cases hq : r == q
      · simp only []
        rw [ih']
        constructor
        · rintro ⟨i, h1, h2⟩; exact ⟨i + 1, by simpa using h1, by simpa using h2⟩
        · rintro ⟨i, h1, h2⟩
          cases i with
          | zero => simp at h1; simp [h1] at hq
          | succ i => exact ⟨i, by simpa using h1, by simpa using h2⟩
      · have hq : r = q := by simpa using hq
        subst hq
        simp only [Option.some.injEq]
        constructor
        · rintro rfl; exact ⟨0, by simp, by simp⟩
        · rintro ⟨i, h1, h2⟩
          have := rise_inj hr h1 (show (r :: l)[0]? = some r by simp)
          subst this
          simpa using h2
theorem Node.Ok.to_iff {x : Node} (h : x.Ok) (r : Int) (c : Nat) : x.to r = some c ↔ ∃ i : Nat, x.runes[i]? = some r ∧ x.below[i]? = some c := lookup_zip h.same h.rise r c
theorem Node.Ok.to_none {x : Node} (h : x.Ok) (r : Int) : x.to r = none ↔ r ∉ x.runes := by
  constructor
  · intro hn hm
    obtain ⟨i, hi⟩ := List.getElem?_of_mem hm
    obtain ⟨c, hc⟩ := h.below_at hi
    rw [(h.to_iff r c).2 ⟨i, hi, hc⟩] at hn
    cases hn
  · intro hm
    cases hx : x.to r with
    | none => rfl
    | some c =>
      obtain ⟨i, hi, _⟩ := (h.to_iff r c).1 hx
      exact (hm (List.mem_of_getElem? hi)).elim

/-- The node of a text. -/
def findF (σ : Store) : Nat → Tx → Option Nat
  | b, [] => some b
  | b, r :: s => match σ b with
    | none => none
    | some x => match x.to r with
      | none => none
      | some c => findF σ c s

theorem Rep.step {d : Nat} {σ : Store} {b : Nat} {D : Dict} (h : Rep d σ b D) {x : Node} (hx : σ b = some x) {r : Int} {c : Nat} (hc : x.to r = some c) : ∃ e, d = e + 1 ∧ Rep e σ c (sub D r) := by
  cases d with
  | zero =>
    obtain ⟨x', h1, h2, h3, h4, h5⟩ := h
    cases hx.symm.trans h1
    obtain ⟨i, hi, _⟩ := (h2.to_iff r c).1 hc
    rw [h4] at hi; simp at hi
  | succ d =>
    obtain ⟨x', h1, h2, h3, h4, h5⟩ := h
    cases hx.symm.trans h1
    obtain ⟨i, hi, hb⟩ := (h2.to_iff r c).1 hc
    exact ⟨d, rfl, h5 i r c hi hb⟩
theorem Rep.none_at {d : Nat} {σ : Store} {b : Nat} {D : Dict} (h : Rep d σ b D) {x : Node} (hx : σ b = some x) {r : Int} (hr : r ∉ x.runes) (k : Tx) : D (r :: k) = none := by
  cases d with
  | zero =>
    obtain ⟨x', h1, h2, h3, h4, h5⟩ := h
    exact h5 r k
  | succ d =>
    obtain ⟨x', h1, h2, h3, h4, h5⟩ := h
    cases hx.symm.trans h1
    by_cases e : D (r :: k) = none
    · exact e
    · exact (hr ((h4 r).2 ⟨k, e⟩)).elim

theorem Rep.find : ∀ {s : Tx} {d : Nat} {σ : Store} {b : Nat} {D : Dict}, Rep d σ b D →
    (findF σ b s = none → D s = none) ∧ ∀ c, findF σ b s = some c → ∃ x, σ c = some x ∧ x.own = D s
  | [], d, σ, b, D, h => by
    obtain ⟨x, h1, h2, h3⟩ := h.at
    refine ⟨fun e => by simp [findF] at e, fun c e => ?_⟩
    simp only [findF, Option.some.injEq] at e
    subst e
    exact ⟨x, h1, h3⟩
  | r :: s, d, σ, b, D, h => by
    obtain ⟨x, h1, h2, h3⟩ := h.at
    simp only [findF, h1]
    cases hc : x.to r with
    | none => exact ⟨fun _ => h.none_at h1 ((h2.to_none r).1 hc) s, fun c e => by simp at e⟩
    | some c =>
      obtain ⟨e, rfl, hr⟩ := h.step h1 hc
      exact hr.find (s := s)

theorem nodup_sub {f : Nat → List Nat} {l : List Nat} (h : (l.flatMap f).Nodup) {i j : Nat} {a b : Nat} (hi : l[i]? = some a) (hj : l[j]? = some b) (hne : i ≠ j) : ∀ x ∈ f a, x ∉ f b := by
  induction l generalizing i j with
  | nil => simp at hi
  | cons y l ih =>
    rw [List.flatMap_cons, List.nodup_append] at h
    obtain ⟨h1, h2, h3⟩ := h
    intro x hx hx2
    cases i with
    | zero =>
      have e : y = a := by simpa using hi
      subst e
      cases j with
      | zero => exact hne rfl
      | succ j => exact h3 x hx x (List.mem_flatMap.2 ⟨b, List.mem_of_getElem? (by simpa using hj : l[j]? = some b), hx2⟩) rfl
    | succ i =>
      cases j with
      | zero =>
        have e : y = b := by simpa using hj
        subst e
        exact h3 x hx2 x (List.mem_flatMap.2 ⟨a, List.mem_of_getElem? (by simpa using hi : l[i]? = some a), hx⟩) rfl
      | succ j => exact ih h2 (by simpa using hi) (by simpa using hj) (by omega) x hx hx2
theorem nodup_one {f : Nat → List Nat} {l : List Nat} (h : (l.flatMap f).Nodup) {i : Nat} {a : Nat} (hi : l[i]? = some a) : (f a).Nodup := by
  induction l generalizing i with
  | nil => simp at hi
  | cons y l ih =>
    rw [List.flatMap_cons, List.nodup_append] at h
    cases i with
    | zero => have e : y = a := by simpa using hi
              subst e; exact h.1
    | succ i => exact ih h.2.1 (by simpa using hi)

/-- A list of rows without a common member, one of them turned. -/
theorem nodup_turn {f g : Nat → List Nat} {l : List Nat} {i : Nat} {a : Nat} (h : (l.flatMap f).Nodup) (hi : l[i]? = some a) (hs : ∀ j c, j ≠ i → l[j]? = some c → g c = f c) (hn : (g a).Nodup) (hd : ∀ x ∈ g a, x ∈ f a ∨ ∀ c ∈ l, x ∉ f c) : (l.flatMap g).Nodup := by
  induction l generalizing i with
  | nil => simp
  | cons y l ih =>
    have h0 := h
    rw [List.flatMap_cons, List.nodup_append] at h
    obtain ⟨h1, h2, h3⟩ := h
    rw [List.flatMap_cons, List.nodup_append]
    cases i with
    | zero =>
      have e : y = a := by simpa using hi
      subst e
      have hl : l.flatMap g = l.flatMap f := flatMap_same fun c hc => by
        obtain ⟨j, hj⟩ := List.getElem?_of_mem hc
        exact hs (j + 1) c (by omega) (by simpa using hj)
      refine ⟨hn, by rw [hl]; exact h2, fun x hx z hz => ?_⟩
      rw [hl] at hz
      rintro rfl
      rcases hd x hx with h4 | h4
      · exact h3 x h4 x hz rfl
      · obtain ⟨c, hc, hz⟩ := List.mem_flatMap.1 hz
        exact h4 c (by simp [hc]) hz
    | succ i =>
      have hy : g y = f y := hs 0 y (by omega) (by simp)
      have hi' : l[i]? = some a := by simpa using hi
      refine ⟨by rw [hy]; exact h1, ih h2 hi' (fun j c hj hc => hs (j + 1) c (by omega) (by simpa using hc)) (fun x hx => (hd x hx).imp id fun h5 c hc => h5 c (by simp [hc])), fun x hx z hz => ?_⟩
      rw [hy] at hx
      rintro rfl
      obtain ⟨c, hc, hz⟩ := List.mem_flatMap.1 hz
      obtain ⟨j, hj⟩ := List.getElem?_of_mem hc
      by_cases e : j = i
      · subst e
        cases hi'.symm.trans hj
        rcases hd x hz with h4 | h4
        · exact h3 x hx x (List.mem_flatMap.2 ⟨a, hc, h4⟩) rfl
        · exact h4 y (by simp) hx
      · rw [hs (j + 1) c (by omega) (by simpa using hj)] at hz
        exact h3 x hx x (List.mem_flatMap.2 ⟨c, hc, hz⟩) rfl
end Go.Proofs.Ytehoanpjlinfaaa.Tri
