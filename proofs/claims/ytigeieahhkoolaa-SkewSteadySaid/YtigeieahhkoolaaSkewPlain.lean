/- Layer 41 (skew), in plain Lean: how far one clock was ahead of another, time by time (the document) and as it goes (the program). No Go in sight. -/
import Derived.WalkKit
namespace Go.Proofs.Ytigeieahhkoolaa.Skew

/-! ### What one event does to the block of a Rates: 0: rho; 1 + 5a + b: most; 26 + 5a + b: ever; 51 + a: sum -/
def upd (g : Nat → Int) (i : Nat) (v : Int) : Nat → Int := fun j => if j = i then v else g j
def one (g : Nat → Int) (nd : Nat) (n : Int) (o : Nat) : Nat → Int :=
  if o = nd then g else
  let g1 := upd g (1 + (nd * 5 + o)) (g (1 + (nd * 5 + o)) + n)
  let g2 := upd g1 (26 + (nd * 5 + o)) (max (g1 (26 + (nd * 5 + o))) (g1 (1 + (nd * 5 + o))))
  upd g2 (1 + (o * 5 + nd)) (max (g2 (1 + (o * 5 + nd)) - g2 0 * n) 0)
def many (g : Nat → Int) (nd : Nat) (n : Int) : Nat → Nat → Int
  | 0 => upd g (51 + nd) (g (51 + nd) + n)
  | o + 1 => one (many g nd n o) nd n o
def goF (g : Nat → Int) (nd : Nat) (n : Int) : Nat → Int := many g nd n 5

theorem one_low (g : Nat → Int) (nd : Nat) (n : Int) (o : Nat) : one g nd n o 0 = g 0 := by
  unfold one upd
  split
  · rfl
  · simp (disch := omega) only [if_neg, if_pos, ite_true, and_true, ne_eq]
theorem one_sum (g : Nat → Int) (nd : Nat) (n : Int) (o a : Nat) (hn : nd < 5) (ho : o < 5) : one g nd n o (51 + a) = g (51 + a) := by
  unfold one upd
  split
  · rfl
  · simp (disch := omega) only [if_neg, if_pos, ite_true, and_true, ne_eq]
theorem one_most (g : Nat → Int) (nd : Nat) (n : Int) (o a b : Nat) (hn : nd < 5) (ho : o < 5) (ha : a < 5) (hb : b < 5) :
    one g nd n o (1 + (a * 5 + b)) = if o ≠ nd ∧ a = nd ∧ b = o then g (1 + (a * 5 + b)) + n else if o ≠ nd ∧ a = o ∧ b = nd then max (g (1 + (a * 5 + b)) - g 0 * n) 0 else g (1 + (a * 5 + b)) := by
  unfold one upd
  by_cases ho' : o = nd
  · simp [ho']
  · simp only [if_neg ho']
    by_cases h1 : a = nd ∧ b = o
    · obtain ⟨rfl, rfl⟩ := h1
      simp (disch := omega) only [if_neg, if_pos, ite_true, and_true, ne_eq]
    · by_cases h2 : a = o ∧ b = nd
      · obtain ⟨rfl, rfl⟩ := h2
        simp (disch := omega) only [if_neg, if_pos, ite_true, and_true, ne_eq]
      · simp (disch := omega) only [if_neg, if_pos, ite_true, and_true, ne_eq]
theorem one_ever (g : Nat → Int) (nd : Nat) (n : Int) (o a b : Nat) (hn : nd < 5) (ho : o < 5) (ha : a < 5) (hb : b < 5) :
    one g nd n o (26 + (a * 5 + b)) = if o ≠ nd ∧ a = nd ∧ b = o then max (g (26 + (a * 5 + b))) (g (1 + (a * 5 + b)) + n) else g (26 + (a * 5 + b)) := by
  unfold one upd
  by_cases ho' : o = nd
  · simp [ho']
  · simp only [if_neg ho']
    by_cases h1 : a = nd ∧ b = o
    · obtain ⟨rfl, rfl⟩ := h1
      simp (disch := omega) only [if_neg, if_pos, ite_true, and_true, ne_eq]
    · simp (disch := omega) only [if_neg, if_pos, ite_true, and_true, ne_eq]

theorem many_zero (g : Nat → Int) (nd : Nat) (n : Int) (o : Nat) : many g nd n o 0 = g 0 := by
  induction o with
  | zero => unfold many upd; simp (disch := omega) only [if_neg, if_pos, ite_true, and_true, ne_eq]
  | succ o ih => unfold many; rw [one_low, ih]
theorem many_sum (g : Nat → Int) (nd : Nat) (n : Int) (o a : Nat) (hn : nd < 5) (ho : o ≤ 5) : many g nd n o (51 + a) = if a = nd then g (51 + a) + n else g (51 + a) := by
  induction o with
  | zero =>
    unfold many upd
    by_cases h : a = nd
    · subst h; simp
    · simp (disch := omega) only [if_neg, if_pos, ite_true, and_true, ne_eq]
  | succ o ih => unfold many; rw [one_sum _ _ _ _ _ hn (by omega), ih (by omega)]
theorem many_most (g : Nat → Int) (nd : Nat) (n : Int) (o a b : Nat) (hn : nd < 5) (ho : o ≤ 5) (ha : a < 5) (hb : b < 5) :
    many g nd n o (1 + (a * 5 + b)) = if a = nd ∧ b ≠ nd ∧ b < o then g (1 + (a * 5 + b)) + n else if b = nd ∧ a ≠ nd ∧ a < o then max (g (1 + (a * 5 + b)) - g 0 * n) 0 else g (1 + (a * 5 + b)) := by
  induction o with
  | zero => unfold many upd; simp (disch := omega) only [if_neg, if_pos, ite_true, and_true, ne_eq]
  | succ o ih =>
    unfold many
    rw [one_most _ _ _ _ _ _ hn (by omega) ha hb, ih (by omega), many_zero]
    by_cases h1 : a = nd ∧ b ≠ nd ∧ b < o
    · simp (disch := omega) only [if_neg, if_pos, ite_true, and_true, ne_eq]
    · by_cases h2 : b = nd ∧ a ≠ nd ∧ a < o
      · simp (disch := omega) only [if_neg, if_pos, ite_true, and_true, ne_eq]
      · by_cases h3 : o ≠ nd ∧ a = nd ∧ b = o
        · simp (disch := omega) only [if_neg, if_pos, ite_true, and_true, ne_eq]
        · by_cases h4 : o ≠ nd ∧ a = o ∧ b = nd
          · simp (disch := omega) only [if_neg, if_pos, ite_true, and_true, ne_eq]
          · simp (disch := omega) only [if_neg, if_pos, ite_true, and_true, ne_eq]
theorem many_ever (g : Nat → Int) (nd : Nat) (n : Int) (o a b : Nat) (hn : nd < 5) (ho : o ≤ 5) (ha : a < 5) (hb : b < 5) :
    many g nd n o (26 + (a * 5 + b)) = if a = nd ∧ b ≠ nd ∧ b < o then max (g (26 + (a * 5 + b))) (g (1 + (a * 5 + b)) + n) else g (26 + (a * 5 + b)) := by
  induction o with
  | zero => unfold many upd; simp (disch := omega) only [if_neg, if_pos, ite_true, and_true, ne_eq]
  | succ o ih =>
    unfold many
    rw [one_ever _ _ _ _ _ _ hn (by omega) ha hb, ih (by omega), many_most _ _ _ _ _ _ hn (by omega) ha hb]
    by_cases h1 : a = nd ∧ b ≠ nd ∧ b < o
    · simp (disch := omega) only [if_neg, if_pos, ite_true, and_true, ne_eq]
    · by_cases h3 : o ≠ nd ∧ a = nd ∧ b = o
      · simp (disch := omega) only [if_neg, if_pos, ite_true, and_true, ne_eq]
      · simp (disch := omega) only [if_neg, if_pos, ite_true, and_true, ne_eq]

/-! ### One pair of clocks -/
/-- What an event adds. -/
def add (a b : Nat) (e : Nat × Int) : Int := (if e.1 = a then e.2 else 0) - 2 * (if e.1 = b then e.2 else 0)
/-- The greatest that one went on now, and ever. -/
def kad : Int × Int → List Int → Int × Int
  | s, [] => s
  | (s, e), d :: l => kad (max (s + d) 0, max e (max (s + d) 0)) l
/-- The greatest beginning of a list. -/
def pre : List Int → Int
  | [] => 0
  | d :: l => max 0 (d + pre l)
/-- The greatest piece of a list. -/
def best : List Int → Int
  | [] => 0
  | d :: l => max (pre (d :: l)) (best l)
theorem pre_best (l : List Int) : 0 ≤ pre l ∧ pre l ≤ best l := by
  cases l with
  | nil => exact ⟨Int.le_refl _, Int.le_refl _⟩
  | cons d l =>
    show 0 ≤ max 0 (d + pre l) ∧ max 0 (d + pre l) ≤ max (max 0 (d + pre l)) (best l)
    omega
theorem kad_best (l : List Int) : ∀ s e, 0 ≤ s → s ≤ e → (kad (s, e) l).2 = max e (max (s + pre l) (best l)) := by
  induction l with
  | nil => intro s e h0 h1; unfold kad pre best; simp only; omega
  | cons d l ih =>
    intro s e h0 h1
    unfold kad
    rw [ih _ _ (by omega) (by omega)]
    have := pre_best l
    show max (max e (max (s + d) 0)) (max (max (s + d) 0 + pre l) (best l)) = max e (max (s + max 0 (d + pre l)) (max (max 0 (d + pre l)) (best l)))
    omega
theorem kad_zero (l : List Int) : (kad (0, 0) l).2 = best l := by
  rw [kad_best l 0 0 (by omega) (by omega)]
  have := pre_best l
  omega

/-- the document's loops -/
def inner : Int × Int → List Int → Int × Int
  | s, [] => s
  | (bst, n), d :: l => inner (max bst (n + d), n + d) l
def outer : Int → List Int → Int
  | bst, [] => bst
  | bst, d :: l => outer (inner (bst, 0) (d :: l)).1 l
theorem inner_pre (l : List Int) : ∀ bst n, n ≤ bst → (inner (bst, n) l).1 = max bst (n + pre l) := by
  induction l with
  | nil => intro bst n h; unfold inner pre; simp only; omega
  | cons d l ih =>
    intro bst n h
    unfold inner
    rw [ih _ _ (by omega)]
    have := pre_best l
    show max (max bst (n + d)) (n + d + pre l) = max bst (n + max 0 (d + pre l))
    omega
theorem outer_best (l : List Int) : ∀ bst, 0 ≤ bst → outer bst l = max bst (best l) := by
  induction l with
  | nil => intro bst h; unfold outer best; omega
  | cons d l ih =>
    intro bst h
    unfold outer
    rw [inner_pre _ _ _ h]
    have := pre_best (d :: l)
    rw [ih _ (by omega)]
    show max (max bst (0 + pre (d :: l))) (best l) = max bst (max (pre (d :: l)) (best l))
    omega

/-! ### The program's block is the pairs' -/
theorem one_bd (g : Nat → Int) (nd : Nat) (n : Int) (o : Nat) (B : Int) (h0 : 0 ≤ n) (hr : g 0 = 2) (h : ∀ i, 1 ≤ i → 0 ≤ g i ∧ g i ≤ B) : ∀ i, 1 ≤ i → 0 ≤ one g nd n o i ∧ one g nd n o i ≤ B + n := by
  intro i hi
  have hi' := h i hi
  have a1 := h (1 + (nd * 5 + o)) (by omega)
  have a2 := h (26 + (nd * 5 + o)) (by omega)
  have a3 := h (1 + (o * 5 + nd)) (by omega)
  have e2 : g 0 * n = 2 * n := by rw [hr]
  unfold one
  split
  · omega
  · simp only
    unfold upd
    have z1 : ¬ (0 = 1 + (nd * 5 + o)) := by omega
    have z2 : ¬ (0 = 26 + (nd * 5 + o)) := by omega
    simp only [if_neg z1, if_neg z2, e2]
    repeat' split
    all_goals omega
theorem many_bd (g : Nat → Int) (nd : Nat) (n : Int) (o : Nat) (B : Int) (h0 : 0 ≤ n) (hr : g 0 = 2) (h : ∀ i, 1 ≤ i → 0 ≤ g i ∧ g i ≤ B) : ∀ i, 1 ≤ i → 0 ≤ many g nd n o i ∧ many g nd n o i ≤ B + n * (o + 1) := by
  induction o with
  | zero =>
    intro i hi
    have hi' := h i hi
    have a1 := h (51 + nd) (by omega)
    unfold many upd
    split <;> omega
  | succ o ih =>
    intro i hi
    have := one_bd (many g nd n o) nd n o (B + n * (o + 1)) h0 (by rw [many_zero]; exact hr) ih i hi
    unfold many
    refine ⟨this.1, ?_⟩
    have e1 : n * (((o + 1 : Nat) : Int) + 1) = n * ((o : Int) + 1) + n := by rw [Int.natCast_succ, Int.mul_add n _ 1, Int.mul_one]
    omega
theorem goF_bd (g : Nat → Int) (nd : Nat) (n : Int) (B : Int) (h0 : 0 ≤ n) (hr : g 0 = 2) (h : ∀ i, 1 ≤ i → 0 ≤ g i ∧ g i ≤ B) : ∀ i, 1 ≤ i → 0 ≤ goF g nd n i ∧ goF g nd n i ≤ B + 6 * n := by
  intro i hi
  have := many_bd g nd n 5 B h0 hr h i hi
  unfold goF
  omega

theorem goF_pair (g : Nat → Int) (nd : Nat) (n : Int) (a b : Nat) (hn : nd < 5) (ha : a < 5) (hb : b < 5) (hab : a ≠ b) (hr : g 0 = 2) (h0 : 0 ≤ n) (s e : Int) (hs : g (1 + (a * 5 + b)) = s) (he : g (26 + (a * 5 + b)) = e) (h1 : 0 ≤ s) (h2 : s ≤ e) :
    goF g nd n (1 + (a * 5 + b)) = max (s + add a b (nd, n)) 0 ∧ goF g nd n (26 + (a * 5 + b)) = max e (max (s + add a b (nd, n)) 0) := by
  unfold goF
  rw [many_most _ _ _ _ _ _ hn (by omega) ha hb, many_ever _ _ _ _ _ _ hn (by omega) ha hb, hs, he, hr]
  unfold add
  simp only
  by_cases c1 : nd = a
  · subst c1
    simp (disch := omega) only [if_neg, if_pos, ite_true, true_and]
    omega
  · by_cases c2 : nd = b
    · subst c2
      simp (disch := omega) only [if_neg, if_pos, ite_true, true_and]
      omega
    · simp (disch := omega) only [if_neg, if_pos]
      omega

def g0 : Nat → Int := fun i => if i = 0 then 2 else 0
def rt (l : List (Nat × Int)) : Nat → Int := l.foldl (fun g e => goF g e.1 e.2) g0
def Good (l : List (Nat × Int)) : Prop := ∀ e ∈ l, e.1 < 5 ∧ 0 ≤ e.2 ∧ e.2 ≤ 64

theorem fold_pair (a b : Nat) (ha : a < 5) (hb : b < 5) (hab : a ≠ b) (l : List (Nat × Int)) : ∀ (g : Nat → Int) (s e : Int), Good l → g 0 = 2 → g (1 + (a * 5 + b)) = s → g (26 + (a * 5 + b)) = e → 0 ≤ s → s ≤ e →
    (l.foldl (fun g e => goF g e.1 e.2) g) (26 + (a * 5 + b)) = (kad (s, e) (l.map (add a b))).2 := by
  induction l with
  | nil => intro g s e _ _ _ he _ _; exact he
  | cons x l ih =>
    intro g s e hg hr hs he h1 h2
    obtain ⟨x1, x2, x3⟩ := hg x (by simp)
    obtain ⟨p1, p2⟩ := goF_pair g x.1 x.2 a b x1 ha hb hab hr x2 s e hs he h1 h2
    show (l.foldl (fun g e => goF g e.1 e.2) (goF g x.1 x.2)) (26 + (a * 5 + b)) = (kad (max (s + add a b x) 0, max e (max (s + add a b x) 0)) (l.map (add a b))).2
    exact ih _ _ _ (fun y hy => hg y (by simp [hy])) (by unfold goF; rw [many_zero]; exact hr) p1 p2 (by omega) (by omega)
theorem fold_same (a : Nat) (ha : a < 5) (l : List (Nat × Int)) : ∀ (g : Nat → Int), Good l → g (26 + (a * 5 + a)) = 0 → (l.foldl (fun g e => goF g e.1 e.2) g) (26 + (a * 5 + a)) = 0 := by
  induction l with
  | nil => intro g _ h; exact h
  | cons x l ih =>
    intro g hg h
    obtain ⟨x1, x2, x3⟩ := hg x (by simp)
    refine ih _ (fun y hy => hg y (by simp [hy])) ?_
    show goF g x.1 x.2 (26 + (a * 5 + a)) = 0
    unfold goF
    rw [many_ever _ _ _ _ _ _ x1 (by omega) ha ha, if_neg (by omega)]
    exact h
theorem fold_bd (l : List (Nat × Int)) : ∀ (g : Nat → Int) (B : Int), Good l → g 0 = 2 → (∀ i, 1 ≤ i → 0 ≤ g i ∧ g i ≤ B) →
    (l.foldl (fun g e => goF g e.1 e.2) g) 0 = 2 ∧ ∀ i, 1 ≤ i → 0 ≤ (l.foldl (fun g e => goF g e.1 e.2) g) i ∧ (l.foldl (fun g e => goF g e.1 e.2) g) i ≤ B + 384 * l.length := by
  induction l with
  | nil => intro g B _ hr h; exact ⟨hr, fun i hi => by have := h i hi; simp only [List.foldl_nil, List.length_nil]; omega⟩
  | cons x l ih =>
    intro g B hg hr h
    obtain ⟨x1, x2, x3⟩ := hg x (by simp)
    obtain ⟨q1, q2⟩ := ih (goF g x.1 x.2) (B + 384) (fun y hy => hg y (by simp [hy])) (by unfold goF; rw [many_zero]; exact hr) (fun i hi => by
      have := goF_bd g x.1 x.2 B x2 hr h i hi
      omega)
    refine ⟨q1, fun i hi => ?_⟩
    have := q2 i hi
    simp only [List.foldl_cons, List.length_cons]
    omega
theorem rt_bd (l : List (Nat × Int)) (hl : Good l) : rt l 0 = 2 ∧ ∀ i, 1 ≤ i → 0 ≤ rt l i ∧ rt l i ≤ 384 * l.length := by
  have := fold_bd l g0 0 hl rfl (fun i hi => by unfold g0; rw [if_neg (by omega)]; omega)
  simpa [rt] using this
theorem rt_snoc (l : List (Nat × Int)) (e : Nat × Int) : rt (l ++ [e]) = goF (rt l) e.1 e.2 := by simp [rt]

def within (g : Nat → Int) (slack : Int) (N : Nat) : Bool := (List.range N).all fun a => (List.range N).all fun b => decide (g (26 + (a * 5 + b)) ≤ slack)
def aheadF (l : List (Nat × Int)) (a b : Nat) : Int := if a = b then 0 else outer 0 (l.map (add a b))
def wantF (l : List (Nat × Int)) (slack : Int) (N : Nat) : Bool := (List.range N).all fun a => (List.range N).all fun b => decide (aheadF l a b ≤ slack)

theorem rt_ahead (l : List (Nat × Int)) (hl : Good l) (a b : Nat) (ha : a < 5) (hb : b < 5) : rt l (26 + (a * 5 + b)) = aheadF l a b := by
  unfold aheadF
  split
  · rename_i h; subst h
    exact fold_same a ha l g0 hl (by unfold g0; rw [if_neg (by omega)])
  · rename_i h
    rw [outer_best _ _ (Int.le_refl 0)]
    have := fold_pair a b ha hb h l g0 0 0 hl rfl (by unfold g0; rw [if_neg (by omega)]) (by unfold g0; rw [if_neg (by omega)]) (Int.le_refl 0) (Int.le_refl 0)
    have h2 := kad_zero (l.map (add a b))
    have h3 := pre_best (l.map (add a b))
    unfold rt
    rw [this, h2]
    omega
theorem within_want (l : List (Nat × Int)) (hl : Good l) (slack : Int) (N : Nat) (hN : N ≤ 5) : within (rt l) slack N = wantF l slack N := by
  unfold within wantF
  rw [Bool.eq_iff_iff]
  simp only [List.all_eq_true, List.mem_range, decide_eq_true_eq]
  constructor
  · intro h a ha b hb; rw [← rt_ahead l hl a b (by omega) (by omega)]; exact h a ha b hb
  · intro h a ha b hb; rw [rt_ahead l hl a b (by omega) (by omega)]; exact h a ha b hb

/-! ### The events of a script -/
def evOf (nodes kd n t : Int) : List (Nat × Int) := if kd = 10 then [((n.tmod nodes + if n.tmod nodes < 0 then nodes else 0).toNat, min (max t 0) 64)] else []
def evl (nodes : Int) (K N T : Nat → Int) : Nat → List (Nat × Int)
  | 0 => []
  | k + 1 => evl nodes K N T k ++ evOf nodes (K k) (N k) (T k)
theorem tmod_bd (n nodes : Int) (h : 1 ≤ nodes) : -nodes < n.tmod nodes ∧ n.tmod nodes < nodes := by
  constructor
  · have := Int.lt_tmod_of_pos n (b := nodes) (by omega)
    omega
  · exact Int.tmod_lt_of_pos n (by omega)
theorem evOf_good (nodes kd n t : Int) (h : 1 ≤ nodes) (h5 : nodes ≤ 5) : Good (evOf nodes kd n t) := by
  intro e he
  unfold evOf at he
  have := tmod_bd n nodes h
  split at he
  · simp only [List.mem_singleton] at he
    subst he
    simp only
    split <;> omega
  · simp at he
theorem evl_good (nodes : Int) (K N T : Nat → Int) (k : Nat) (h : 1 ≤ nodes) (h5 : nodes ≤ 5) : Good (evl nodes K N T k) := by
  induction k with
  | zero => intro e he; simp [evl] at he
  | succ k ih =>
    intro e he
    unfold evl at he
    rcases List.mem_append.1 he with he | he
    · exact ih e he
    · exact evOf_good _ _ _ _ h h5 e he
theorem evl_len (nodes : Int) (K N T : Nat → Int) (k : Nat) : (evl nodes K N T k).length ≤ k := by
  induction k with
  | zero => simp [evl]
  | succ k ih =>
    have : (evOf nodes (K k) (N k) (T k)).length ≤ 1 := by unfold evOf; split <;> simp
    unfold evl
    rw [List.length_append]
    omega
end Go.Proofs.Ytigeieahhkoolaa.Skew
