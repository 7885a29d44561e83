/- Layer 5 (vector), in plain Lean: rows of pairs, rising by who; what is known of each. No Go in sight. -/
import Derived.WalkKit
namespace Go.Proofs.Ytihfcohebgemdaa.Vec

/-- A write: whose, and the how manieth. -/
structure P where
  who : Int
  n : Int
deriving DecidableEq
def right (d : P) : Bool := decide (0 ≤ d.who) && (decide (1 ≤ d.n) && decide (d.n ≤ 1099511627776))
theorem right_iff (d : P) : right d = true ↔ 0 ≤ d.who ∧ 1 ≤ d.n ∧ d.n ≤ 1099511627776 := by unfold right; simp

def getF : List P → Int → Int
  | [], _ => 0
  | x :: t, w => if x.who = w then x.n else getF t w
def setG (d : P) : Bool → List P → List P
  | inn, [] => if inn then [] else [d]
  | inn, x :: t => (if !inn && decide (d.who ≤ x.who) then [d] else []) ++ ((if x.who != d.who then [x] else []) ++ setG d (inn || (!inn && decide (d.who ≤ x.who))) t)
def setF (l : List P) (d : P) : List P := setG d false l
/-- A row as a vector has it. -/
def Rises (l : List P) : Prop := l.Pairwise fun x y => x.who < y.who
def Good (l : List P) : Prop := Rises l ∧ ∀ x ∈ l, right x = true

theorem getF_none {l : List P} {w : Int} (h : ∀ x ∈ l, x.who ≠ w) : getF l w = 0 := by
  induction l with
  | nil => rfl
  | cons x t ih =>
    unfold getF
    rw [if_neg (h x (by simp))]
    exact ih fun y hy => h y (by simp [hy])
theorem getF_some {l : List P} (hl : Rises l) {x : P} (hx : x ∈ l) : getF l x.who = x.n := by
  induction l with
  | nil => simp at hx
  | cons y t ih =>
    have hp := List.pairwise_cons.1 hl
    unfold getF
    rcases List.mem_cons.1 hx with e | e
    · subst e; rw [if_pos rfl]
    · have := hp.1 x e
      rw [if_neg (by omega)]
      exact ih hp.2 e
theorem getF_cases (l : List P) (w : Int) : getF l w = 0 ∨ ∃ x ∈ l, x.who = w ∧ x.n = getF l w := by
  induction l with
  | nil => exact Or.inl rfl
  | cons y t ih =>
    unfold getF
    by_cases c : y.who = w
    · rw [if_pos c]; exact Or.inr ⟨y, by simp, c, rfl⟩
    · rw [if_neg c]
      rcases ih with h | ⟨x, h1, h2, h3⟩
      · exact Or.inl h
      · exact Or.inr ⟨x, by simp [h1], h2, h3⟩
theorem Good.get {l : List P} (hl : Good l) (w : Int) : getF l w = 0 ∨ (0 ≤ w ∧ 1 ≤ getF l w ∧ getF l w ≤ 1099511627776) := by
  rcases getF_cases l w with h | ⟨x, h1, h2, h3⟩
  · exact Or.inl h
  · have := (right_iff x).1 (hl.2 x h1)
    right; omega
theorem Good.nonneg {l : List P} (hl : Good l) (w : Int) : 0 ≤ getF l w ∧ getF l w ≤ 1099511627776 := by have := hl.get w; omega
theorem Good.nil : Good [] := ⟨List.Pairwise.nil, by simp⟩
theorem Good.tail {x : P} {l : List P} (h : Good (x :: l)) : Good l := ⟨(List.pairwise_cons.1 h.1).2, fun y hy => h.2 y (by simp [hy])⟩
theorem get_lt {l : List P} {v w : Int} (h : ∀ x ∈ l, v < x.who) (hw : w ≤ v) : getF l w = 0 := getF_none fun x hx => by have := h x hx; omega

/-- A row is what it knows. -/
theorem Good.ext : ∀ {a b : List P}, Good a → Good b → (∀ w, getF a w = getF b w) → a = b
  | [], [], _, _, _ => rfl
  | [], y :: b, _, hb, h => by
    have h1 := h y.who
    have h2 := (right_iff y).1 (hb.2 y (by simp))
    have e : getF (y :: b) y.who = y.n := by unfold getF; rw [if_pos rfl]
    rw [e] at h1
    have : getF [] y.who = 0 := rfl
    omega
  | x :: a, [], ha, _, h => by
    have h1 := h x.who
    have h2 := (right_iff x).1 (ha.2 x (by simp))
    have e : getF (x :: a) x.who = x.n := by unfold getF; rw [if_pos rfl]
    rw [e] at h1
    have : getF [] x.who = 0 := rfl
    omega
  | x :: a, y :: b, ha, hb, h => by
    have pa := List.pairwise_cons.1 ha.1
    have pb := List.pairwise_cons.1 hb.1
    have rx := (right_iff x).1 (ha.2 x (by simp))
    have ry := (right_iff y).1 (hb.2 y (by simp))
    have ex : getF (x :: a) x.who = x.n := by unfold getF; rw [if_pos rfl]
    have ey : getF (y :: b) y.who = y.n := by unfold getF; rw [if_pos rfl]
    have hw : x.who = y.who := by
      by_cases c1 : x.who < y.who
      · have h1 := h x.who
        have : getF (y :: b) x.who = 0 := getF_none fun z hz => by
          rcases List.mem_cons.1 hz with e | e
          · subst e; omega
          · have := pb.1 z e; omega
        omega
      · by_cases c2 : y.who < x.who
        · have h1 := h y.who
          have : getF (x :: a) y.who = 0 := getF_none fun z hz => by
            rcases List.mem_cons.1 hz with e | e
            · subst e; omega
            · have := pa.1 z e; omega
          omega
        · omega
    have hn : x.n = y.n := by have h1 := h x.who; rw [ex, hw, ey] at h1; exact h1
    have exy : x = y := by cases x; cases y; simp_all
    subst exy
    rw [Good.ext ha.tail hb.tail fun w => ?_]
    by_cases c : x.who = w
    · subst c
      rw [get_lt pa.1 (Int.le_refl _), get_lt pb.1 (Int.le_refl _)]
    · have h1 := h w
      unfold getF at h1
      rwa [if_neg c, if_neg c] at h1

theorem setG_in (d : P) : ∀ (l : List P), (∀ x ∈ l, d.who ≤ x.who) → Rises l → setG d true l = l.filter fun x => x.who != d.who
  | [], _, _ => rfl
  | x :: t, h, hl => by
    have hp := List.pairwise_cons.1 hl
    have hx := h x (by simp)
    have ih := setG_in d t (fun y hy => h y (by simp [hy])) hp.2
    unfold setG
    rw [List.filter_cons]
    simp only [Bool.not_true, Bool.false_and, Bool.or_false, Bool.false_eq_true, if_false, List.nil_append, ih]
    cases hc : x.who != d.who <;> simp
theorem mem_setG {d : P} {l : List P} {x : P} : ∀ {inn : Bool}, x ∈ setG d inn l → x = d ∨ (x ∈ l ∧ x.who ≠ d.who) := by
  induction l with
  | nil => intro inn h; cases inn <;> simp [setG] at h; exact Or.inl h
  | cons y t ih =>
    intro inn h
    unfold setG at h
    rw [List.mem_append, List.mem_append] at h
    rcases h with h | h | h
    · split at h <;> simp at h
      exact Or.inl h
    · split at h <;> simp at h
      rename_i hc
      subst h
      exact Or.inr ⟨by simp, by simpa using hc⟩
    · rcases ih h with h | h
      · exact Or.inl h
      · exact Or.inr ⟨by simp [h.1], h.2⟩
theorem setG_len (d : P) (l : List P) : ∀ inn, (setG d inn l).length ≤ l.length + 1 := by
  have h2 : ∀ (l : List P), (setG d true l).length ≤ l.length := by
    intro l
    induction l with
    | nil => simp [setG]
    | cons x t ih =>
      unfold setG
      simp only [Bool.not_true, Bool.false_and, Bool.or_false, Bool.false_eq_true, if_false, List.nil_append, List.length_append, List.length_cons]
      split <;> simp <;> omega
  induction l with
  | nil => intro inn; cases inn <;> simp [setG]
  | cons x t ih =>
    intro inn
    cases inn with
    | true => have := h2 (x :: t); omega
    | false =>
      unfold setG
      cases hc : decide (d.who ≤ x.who)
      · have := ih false
        simp only [Bool.not_false, Bool.and_false, Bool.or_false, Bool.false_eq_true, if_false, List.nil_append, List.length_append, List.length_cons]
        split <;> simp <;> omega
      · have := h2 t
        simp only [Bool.not_false, Bool.and_self, Bool.or_true, if_true, List.length_append, List.length_cons, List.length_nil]
        split <;> simp <;> omega
theorem setF_len (l : List P) (d : P) : (setF l d).length ≤ l.length + 1 := setG_len d l false

theorem set_good {l : List P} {d : P} (hl : Rises l) : Rises (setF l d) ∧ ∀ w, getF (setF l d) w = if w = d.who then d.n else getF l w := by
  induction l with
  | nil =>
    refine ⟨List.pairwise_singleton _ _, fun w => ?_⟩
    show (if d.who = w then d.n else getF [] w) = _
    by_cases c : d.who = w
    · rw [if_pos c, if_pos c.symm]
    · rw [if_neg c, if_neg (fun h => c h.symm)]
  | cons x t ih =>
    have hp := List.pairwise_cons.1 hl
    obtain ⟨i1, i2⟩ := ih hp.2
    unfold setF setG
    by_cases c : d.who ≤ x.who
    · have e : decide (d.who ≤ x.who) = true := decide_eq_true c
      simp only [e, Bool.not_false, Bool.and_self, Bool.or_true, if_true]
      rw [setG_in d t (fun y hy => by have := hp.1 y hy; omega) hp.2]
      by_cases c2 : x.who = d.who
      · have e2 : (x.who != d.who) = false := by simp [c2]
        have ef : (t.filter fun y => y.who != d.who) = t := List.filter_eq_self.2 fun y hy => by have := hp.1 y hy; simp; omega
        rw [e2, ef]
        simp only [Bool.false_eq_true, if_false, List.nil_append, List.singleton_append]
        refine ⟨List.pairwise_cons.2 ⟨fun y hy => by have := hp.1 y hy; omega, hp.2⟩, fun w => ?_⟩
        show (if d.who = w then d.n else getF t w) = if w = d.who then d.n else (if x.who = w then x.n else getF t w)
        by_cases c3 : d.who = w
        · rw [if_pos c3, if_pos c3.symm]
        · rw [if_neg c3, if_neg (fun h => c3 h.symm), if_neg (by omega)]
      · have e2 : (x.who != d.who) = true := by simp [c2]
        have ef : (t.filter fun y => y.who != d.who) = t := List.filter_eq_self.2 fun y hy => by have := hp.1 y hy; simp; omega
        rw [e2, ef]
        simp only [if_true, List.singleton_append]
        refine ⟨List.pairwise_cons.2 ⟨fun y hy => ?_, hl⟩, fun w => ?_⟩
        · rcases List.mem_cons.1 hy with e | e
          · subst e; omega
          · have := hp.1 y e; omega
        · show (if d.who = w then d.n else getF (x :: t) w) = _
          by_cases c3 : d.who = w
          · rw [if_pos c3, if_pos c3.symm]
          · rw [if_neg c3, if_neg (fun h => c3 h.symm)]
    · have e : decide (d.who ≤ x.who) = false := decide_eq_false c
      have e2 : (x.who != d.who) = true := by simp; omega
      simp only [e, e2, Bool.not_false, Bool.and_false, Bool.or_false, Bool.false_eq_true, if_false, List.nil_append, if_true, List.singleton_append]
      change Rises (x :: setF t d) ∧ ∀ w, getF (x :: setF t d) w = _
      refine ⟨List.pairwise_cons.2 ⟨fun y hy => ?_, i1⟩, fun w => ?_⟩
      · rcases mem_setG hy with h | h
        · subst h; omega
        · exact hp.1 y h.1
      · show (if x.who = w then x.n else getF (setF t d) w) = if w = d.who then d.n else (if x.who = w then x.n else getF t w)
        rw [i2 w]
        by_cases c3 : x.who = w
        · rw [if_pos c3, if_neg (by omega), if_pos c3]
        · rw [if_neg c3, if_neg c3]
theorem Good.set {l : List P} {d : P} (hl : Good l) (hd : right d = true) : Good (setF l d) := by
  refine ⟨(set_good hl.1).1, fun x hx => ?_⟩
  rcases mem_setG hx with h | h
  · subst h; exact hd
  · exact hl.2 x h.1

/-- With a write more, if it may be: what is known of that writer is the greater one. -/
def up (l : List P) (d : P) : List P := if right d = true then setF l ⟨d.who, max (getF l d.who) d.n⟩ else l
theorem Good.up {l : List P} (hl : Good l) (d : P) : Good (up l d) ∧ ∀ w, getF (Vec.up l d) w = if right d = true ∧ w = d.who then max (getF l w) d.n else getF l w := by
  unfold Vec.up
  split
  · rename_i h
    have hr := (right_iff d).1 h
    have hn := hl.nonneg d.who
    refine ⟨hl.set ((right_iff _).2 ⟨hr.1, by show 1 ≤ max _ _; omega, by show max _ _ ≤ _; omega⟩), fun w => ?_⟩
    rw [(set_good hl.1).2 w]
    by_cases c : w = d.who
    · subst c; rw [if_pos rfl, if_pos ⟨h, rfl⟩]
    · rw [if_neg c, if_neg (fun h => c h.2)]
  · rename_i h
    exact ⟨hl, fun w => by rw [if_neg (fun h2 => h h2.1)]⟩
/-- The same by the reference's words. -/
theorem up_ref {l : List P} (hl : Good l) (d : P) : (if right d = true ∧ getF l d.who < d.n then setF l d else l) = up l d := by
  obtain ⟨u1, u2⟩ := hl.up d
  by_cases hr : right d = true
  · by_cases hlt : getF l d.who < d.n
    · rw [if_pos ⟨hr, hlt⟩]
      refine Good.ext (hl.set hr) u1 fun w => ?_
      rw [u2 w, (set_good hl.1).2 w]
      by_cases c : w = d.who
      · subst c; rw [if_pos rfl, if_pos ⟨hr, rfl⟩]; omega
      · rw [if_neg c, if_neg (fun h => c h.2)]
    · rw [if_neg (fun h => hlt h.2)]
      refine Good.ext hl u1 fun w => ?_
      rw [u2 w]
      by_cases c : w = d.who
      · subst c; rw [if_pos ⟨hr, rfl⟩]; omega
      · rw [if_neg (fun h => c h.2)]
  · rw [if_neg (fun h => hr h.1)]
    unfold up
    rw [if_neg hr]
def ofF (l : List P) : List P := l.foldl up []
theorem foldl_good : ∀ (l : List P) {a : List P}, Good a → Good (l.foldl up a)
  | [], _, h => h
  | x :: t, _, h => foldl_good t (h.up x).1
theorem ofF_good (l : List P) : Good (ofF l) := foldl_good l Good.nil
def joinF (a b : List P) : List P := b.foldl up a
theorem ofF_snoc (l : List P) (x : P) : ofF (l ++ [x]) = up (ofF l) x := by unfold ofF; rw [List.foldl_append]; rfl
theorem up_len (l : List P) (d : P) : (up l d).length ≤ l.length + 1 := by
  unfold up
  split
  · exact setF_len _ _
  · omega
theorem foldl_len : ∀ (l a : List P), (l.foldl up a).length ≤ a.length + l.length
  | [], a => by simp
  | x :: t, a => by
    have h1 := up_len a x
    have h2 := foldl_len t (up a x)
    rw [List.foldl_cons, List.length_cons]
    omega
theorem ofF_len (l : List P) : (ofF l).length ≤ l.length := by have := foldl_len l []; simp at this; exact this
theorem joinF_len (a b : List P) : (joinF a b).length ≤ a.length + b.length := foldl_len b a
theorem joinF_snoc (a b : List P) (x : P) : joinF a (b ++ [x]) = up (joinF a b) x := by unfold joinF; rw [List.foldl_append]; rfl
theorem joinF_good {a : List P} (h : Good a) (b : List P) : Good (joinF a b) := foldl_good b h
theorem joinF_get (b : List P) : ∀ {a : List P}, Good a → Good b → ∀ w, getF (joinF a b) w = max (getF a w) (getF b w) := by
  induction b with
  | nil => intro a ha _ w; have := ha.nonneg w; show getF a w = max (getF a w) 0; omega
  | cons y t ih =>
    intro a ha hb w
    have hp := List.pairwise_cons.1 hb.1
    have hy := hb.2 y (by simp)
    have hry := (right_iff y).1 hy
    show getF (joinF (up a y) t) w = _
    rw [ih (ha.up y).1 hb.tail w, (ha.up y).2 w]
    show _ = max (getF a w) (if y.who = w then y.n else getF t w)
    by_cases c : y.who = w
    · subst c
      have h0 : getF t y.who = 0 := get_lt hp.1 (Int.le_refl _)
      have := ha.nonneg y.who
      rw [if_pos ⟨hy, rfl⟩, if_pos rfl, h0]; omega
    · rw [if_neg (fun h => c h.2.symm), if_neg c]
/-- Of both the lesser ones. -/
def meetF (a b : List P) : List P := a.flatMap fun x => if 0 < min x.n (getF b x.who) then [⟨x.who, min x.n (getF b x.who)⟩] else []
theorem meetF_len (a b : List P) : (meetF a b).length ≤ a.length := by
  induction a with
  | nil => exact Nat.le_refl _
  | cons x t ih =>
    show ((if 0 < min x.n (getF b x.who) then [(⟨x.who, min x.n (getF b x.who)⟩ : P)] else []) ++ meetF t b).length ≤ t.length + 1
    rw [List.length_append]
    split
    · show 1 + _ ≤ _; omega
    · show 0 + _ ≤ _; omega
theorem meetF_snoc (a b : List P) (x : P) : meetF (a ++ [x]) b = meetF a b ++ (if 0 < min x.n (getF b x.who) then [⟨x.who, min x.n (getF b x.who)⟩] else []) := by unfold meetF; rw [List.flatMap_append, List.flatMap_singleton]
theorem mem_meetF {a b : List P} {x : P} (h : x ∈ meetF a b) : ∃ y ∈ a, x.who = y.who ∧ x.n = min y.n (getF b y.who) ∧ 0 < x.n := by
  unfold meetF at h
  obtain ⟨y, hy, hx⟩ := List.mem_flatMap.1 h
  split at hx
  · simp at hx; subst hx; exact ⟨y, hy, rfl, rfl, by assumption⟩
  · simp at hx
theorem meetF_good {a : List P} (b : List P) (ha : Good a) : Good (meetF a b) := by
  refine ⟨?_, fun x hx => ?_⟩
  · induction a with
    | nil => exact List.Pairwise.nil
    | cons x t ih =>
      have hp := List.pairwise_cons.1 ha.1
      show Rises ((if 0 < min x.n (getF b x.who) then [⟨x.who, min x.n (getF b x.who)⟩] else []) ++ meetF t b)
      split
      · refine List.pairwise_cons.2 ⟨fun z hz => ?_, ih ha.tail⟩
        obtain ⟨y, hy, e, _⟩ := mem_meetF hz
        have := hp.1 y hy
        show x.who < z.who
        omega
      · exact ih ha.tail
  · obtain ⟨y, hy, h1, h2, h3⟩ := mem_meetF hx
    have := (right_iff y).1 (ha.2 y hy)
    exact (right_iff x).2 (by omega)
theorem meetF_get {a b : List P} (ha : Good a) (hb : Good b) (w : Int) : getF (meetF a b) w = min (getF a w) (getF b w) := by
  induction a with
  | nil => have := hb.nonneg w; show (0 : Int) = min 0 (getF b w); omega
  | cons x t ih =>
    have hp := List.pairwise_cons.1 ha.1
    have hx := (right_iff x).1 (ha.2 x (by simp))
    have iht := ih ha.tail
    show getF ((if 0 < min x.n (getF b x.who) then [⟨x.who, min x.n (getF b x.who)⟩] else []) ++ meetF t b) w = min (if x.who = w then x.n else getF t w) (getF b w)
    by_cases c : x.who = w
    · subst c
      rw [if_pos rfl]
      have := hb.nonneg x.who
      split
      · show (if x.who = x.who then min x.n (getF b x.who) else getF (meetF t b) x.who) = _
        rw [if_pos rfl]
      · rw [List.nil_append, iht, get_lt hp.1 (Int.le_refl _)]; omega
    · rw [if_neg c]
      split
      · show (if x.who = w then min x.n (getF b x.who) else getF (meetF t b) w) = _
        rw [if_neg c, iht]
      · exact iht
/-- Is all that b knows known to a? -/
def coversF (a b : List P) : Bool := b.all fun x => decide (x.n ≤ getF a x.who)
theorem coversF_iff {a b : List P} (ha : Good a) (hb : Good b) : coversF a b = true ↔ ∀ w, getF b w ≤ getF a w := by
  unfold coversF
  rw [List.all_eq_true]
  constructor
  · intro h w
    have := ha.nonneg w
    rcases getF_cases b w with h1 | ⟨x, h1, h2, h3⟩
    · omega
    · have := h x h1; simp at this; subst h2; omega
  · intro h x hx
    have := h x.who
    rw [getF_some hb.1 hx] at this
    exact decide_eq_true this
theorem getF_snoc_new {y : P} : ∀ {a : List P}, (∀ x ∈ a, x.who ≠ y.who) → getF (a ++ [y]) y.who = y.n
  | [], _ => by show (if y.who = y.who then y.n else 0) = y.n; rw [if_pos rfl]
  | z :: a, h => by
    show (if z.who = y.who then z.n else getF (a ++ [y]) y.who) = y.n
    rw [if_neg (h z (by simp))]
    exact getF_snoc_new fun x hx => h x (by simp [hx])
theorem getF_snoc_old {y : P} {w : Int} (hw : y.who ≠ w) : ∀ {a : List P}, getF (a ++ [y]) w = getF a w
  | [] => by show (if y.who = w then y.n else 0) = 0; rw [if_neg hw]
  | z :: a => by
    show (if z.who = w then z.n else getF (a ++ [y]) w) = (if z.who = w then z.n else getF a w)
    rw [getF_snoc_old hw]
theorem ofF_self {l : List P} (hl : Good l) : ofF l = l := by
  have h : ∀ (t a : List P), Good a → Good t → (∀ x ∈ a, ∀ y ∈ t, x.who < y.who) → t.foldl up a = a ++ t := by
    intro t
    induction t with
    | nil => intro a _ _ _; simp
    | cons y t ih =>
      intro a ha ht hat
      have hp := List.pairwise_cons.1 ht.1
      have hy := ht.2 y (by simp)
      have e : up a y = a ++ [y] := by
        have hg : Good (a ++ [y]) := by
          refine ⟨List.pairwise_append.2 ⟨ha.1, List.pairwise_singleton _ _, fun x hx z hz => by simp at hz; subst hz; exact hat x hx z (by simp)⟩, fun x hx => ?_⟩
          rcases List.mem_append.1 hx with h | h
          · exact ha.2 x h
          · simp at h; subst h; exact hy
        refine Good.ext (ha.up y).1 hg fun w => ?_
        rw [(ha.up y).2 w]
        by_cases c : w = y.who
        · subst c
          have hn : ∀ x ∈ a, x.who ≠ y.who := fun x hx => by have := hat x hx y (by simp); omega
          have hr := (right_iff y).1 hy
          rw [if_pos ⟨hy, rfl⟩, getF_none hn, getF_snoc_new hn]
          omega
        · rw [if_neg (fun h => c h.2), getF_snoc_old (fun h => c h.symm)]
      rw [List.foldl_cons, e, ih (a ++ [y]) (by rw [← e]; exact (ha.up y).1) ht.tail (fun x hx z hz => ?_)]
      · simp
      · rcases List.mem_append.1 hx with h | h
        · exact hat x h z (by simp [hz])
        · simp at h; subst h; exact hp.1 z hz
  have := h l [] Good.nil hl (by simp)
  show l.foldl up [] = l
  simpa using this
end Go.Proofs.Ytihfcohebgemdaa.Vec
