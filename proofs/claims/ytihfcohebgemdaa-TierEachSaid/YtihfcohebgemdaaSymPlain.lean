/- The merge in place of a stable sort (as functions of places), in plain Lean. No Go in sight. -/
import Derived.Test.YtihfcohebgemdaaSortPlain
namespace Go.Proofs.Ytihfcohebgemdaa.Sort

/-- A search by halves: the first place at which p does not hold. -/
def bsr (p : Nat → Bool) : Nat → Nat → Nat → Nat
  | 0, i, _ => i
  | m + 1, i, j => if i < j then (if p ((i + j) / 2) then bsr p m ((i + j) / 2 + 1) j else bsr p m i ((i + j) / 2)) else i
theorem bsr_more (p : Nat → Bool) (m : Nat) : ∀ i j m', j - i ≤ m → j - i ≤ m' → bsr p m i j = bsr p m' i j := by
  induction m with
  | zero =>
    intro i j m' h1 h2
    have : ¬ i < j := by omega
    cases m' with
    | zero => rfl
    | succ m' => simp [bsr, this]
  | succ m ih =>
    intro i j m' h1 h2
    by_cases c : i < j
    · cases m' with
      | zero => omega
      | succ m' =>
        unfold bsr
        rw [if_pos c, if_pos c]
        split
        · exact ih _ _ _ (by omega) (by omega)
        · exact ih _ _ _ (by omega) (by omega)
    · cases m' with
      | zero => simp [bsr, c]
      | succ m' => simp [bsr, c]
theorem bsr_spec (p : Nat → Bool) (m : Nat) : ∀ i j, j - i ≤ m → i ≤ j → (∀ a b, i ≤ a → a ≤ b → b < j → p b = true → p a = true) →
    i ≤ bsr p m i j ∧ bsr p m i j ≤ j ∧ (∀ k, i ≤ k → k < bsr p m i j → p k = true) ∧ (∀ k, bsr p m i j ≤ k → k < j → p k = false) := by
  induction m with
  | zero =>
    intro i j h1 h2 _
    obtain rfl : i = j := by omega
    exact ⟨Nat.le_refl _, Nat.le_refl _, fun k h3 h4 => by simp only [bsr] at h4; omega, fun k h3 h4 => by simp only [bsr] at h3; omega⟩
  | succ m ih =>
    intro i j h1 h2 hp
    unfold bsr
    by_cases c : i < j
    · rw [if_pos c]
      cases hc : p ((i + j) / 2)
      · rw [if_neg (by simp)]
        obtain ⟨q1, q2, q3, q4⟩ := ih i ((i + j) / 2) (by omega) (by omega) (fun a b ha hab hb => hp a b ha hab (by omega))
        refine ⟨q1, by omega, q3, fun k hk1 hk2 => ?_⟩
        by_cases c2 : k < (i + j) / 2
        · exact q4 k hk1 c2
        · cases hpk : p k with
          | false => rfl
          | true =>
            have := hp ((i + j) / 2) k (by omega) (by omega) hk2 hpk
            rw [hc] at this; simp at this
      · rw [if_pos rfl]
        obtain ⟨q1, q2, q3, q4⟩ := ih ((i + j) / 2 + 1) j (by omega) (by omega) (fun a b ha hab hb => hp a b (by omega) hab hb)
        refine ⟨by omega, q2, fun k hk1 hk2 => ?_, q4⟩
        by_cases c2 : (i + j) / 2 + 1 ≤ k
        · exact q3 k c2 hk2
        · exact hp k ((i + j) / 2) hk1 (by omega) (by omega) hc
    · rw [if_neg c]
      exact ⟨Nat.le_refl _, h2, fun k h3 h4 => by omega, fun k h3 h4 => by omega⟩

/-- The element at a, moved up to e; what stood between moves down. -/
def upF (f : Nat → Int) (a e : Nat) : Nat → Int := fun k => if a ≤ k ∧ k < e then f (k + 1) else if k = e then f a else f k
/-- The element at m, moved down to i. -/
def downF (f : Nat → Int) (i m : Nat) : Nat → Int := fun k => if k = i then f m else if i < k ∧ k ≤ m then f (k - 1) else f k
theorem up_step (f : Nat → Int) {a k : Nat} (h : a ≤ k) : swp (upF f a k) k (k + 1) = upF f a (k + 1) := by
  funext x
  unfold swp upF
  try dsimp only
  repeat' split
  all_goals first | rfl | (exfalso; omega) | (congr 1; omega)
theorem down_step (f : Nat → Int) {m k : Nat} (h : k + 1 ≤ m) : swp (downF f (k + 1) m) (k + 1) k = downF f k m := by
  funext x
  unfold swp downF
  try dsimp only
  repeat' split
  all_goals first | rfl | (exfalso; omega) | (congr 1; omega)
theorem up_same (f : Nat → Int) {a e b : Nat} (h1 : a ≤ e) (h2 : e < b) : Same f (upF f a e) a b := by
  refine ⟨fun v => ⟨?_, ?_⟩, fun k hk => ?_⟩
  · rintro ⟨k, q1, q2, rfl⟩
    by_cases c : k = a
    · subst c; exact ⟨e, h1, h2, by unfold upF; simp⟩
    · by_cases c2 : k ≤ e
      · exact ⟨k - 1, by omega, by omega, by unfold upF; rw [if_pos ⟨by omega, by omega⟩, show k - 1 + 1 = k by omega]⟩
      · exact ⟨k, q1, q2, by unfold upF; rw [if_neg (by omega), if_neg (by omega)]⟩
  · rintro ⟨k, q1, q2, rfl⟩
    unfold upF
    split
    · exact ⟨k + 1, by omega, by omega, rfl⟩
    · split
      · exact ⟨a, Nat.le_refl _, by omega, rfl⟩
      · exact ⟨k, q1, q2, rfl⟩
  · unfold upF; rw [if_neg (by omega), if_neg (by omega)]
theorem down_same (f : Nat → Int) {i m a b : Nat} (h0 : a ≤ i) (h1 : i ≤ m) (h2 : m < b) : Same f (downF f i m) a b := by
  refine ⟨fun v => ⟨?_, ?_⟩, fun k hk => ?_⟩
  · rintro ⟨k, q1, q2, rfl⟩
    by_cases c : k = m
    · subst c; exact ⟨i, h0, by omega, by unfold downF; simp⟩
    · by_cases c2 : i ≤ k ∧ k < m
      · exact ⟨k + 1, by omega, by omega, by unfold downF; rw [if_neg (by omega), if_pos ⟨by omega, by omega⟩, Nat.add_sub_cancel]⟩
      · exact ⟨k, q1, q2, by unfold downF; rw [if_neg (by omega), if_neg (by omega)]⟩
  · rintro ⟨k, q1, q2, rfl⟩
    unfold downF
    split
    · exact ⟨m, by omega, h2, rfl⟩
    · split
      · exact ⟨k - 1, by omega, by omega, rfl⟩
      · exact ⟨k, q1, q2, rfl⟩
  · unfold downF; rw [if_neg (by omega), if_neg (by omega)]

/-- Two neighbouring ranges, one exchanged for the other. -/
def rotF (f : Nat → Int) (a m b : Nat) : Nat → Int := fun k => if a ≤ k ∧ k < a + (b - m) then f (k + (m - a)) else if a + (b - m) ≤ k ∧ k < b then f (k - (b - m)) else f k
theorem rot_same (f : Nat → Int) {a m b : Nat} (h1 : a ≤ m) (h2 : m ≤ b) : Same f (rotF f a m b) a b := by
  refine ⟨fun v => ⟨?_, ?_⟩, fun k hk => ?_⟩
  · rintro ⟨k, q1, q2, rfl⟩
    by_cases c : k < m
    · exact ⟨k + (b - m), by omega, by omega, by unfold rotF; rw [if_neg (by omega), if_pos ⟨by omega, by omega⟩]; congr 1; omega⟩
    · exact ⟨k - (m - a), by omega, by omega, by unfold rotF; rw [if_pos ⟨by omega, by omega⟩]; congr 1; omega⟩
  · rintro ⟨k, q1, q2, rfl⟩
    unfold rotF
    split
    · exact ⟨_, by omega, by omega, rfl⟩
    · split
      · exact ⟨_, by omega, by omega, rfl⟩
      · exact ⟨k, q1, q2, rfl⟩
  · unfold rotF; rw [if_neg (by omega), if_neg (by omega)]

/-- So many elements from a on exchanged for those from b on. -/
def srF (f : Nat → Int) (a b n : Nat) : Nat → Int := fun k => if a ≤ k ∧ k < a + n then f (k - a + b) else if b ≤ k ∧ k < b + n then f (k - b + a) else f k
theorem sr_step (f : Nat → Int) {a b n : Nat} (h : a + n < b) : swp (srF f a b n) (a + n) (b + n) = srF f a b (n + 1) := by
  funext x
  unfold swp srF
  try dsimp only
  repeat' split
  all_goals first | rfl | (exfalso; omega) | (congr 1; omega)
/-- The rotation's rounds: what is left to be exchanged are i elements ahead of m, and j from m on. -/
def rotS : Nat → (Nat → Int) → Nat → Nat → Nat → (Nat → Int)
  | 0, f, _, _, _ => f
  | q + 1, f, m, i, j => if i = j then srF f (m - i) m i else if j < i then rotS q (srF f (m - i) m j) m (i - j) j else rotS q (srF f (m - i) (m + j - i) i) m i (j - i)
theorem rotS_eq (q : Nat) : ∀ (f : Nat → Int) (m i j : Nat), 0 < i → 0 < j → i ≤ m → i + j ≤ q → rotS q f m i j = rotF f (m - i) m (m + j) := by
  induction q with
  | zero => intro f m i j h1 h2; omega
  | succ q ih =>
    intro f m i j hi hj him hq
    unfold rotS
    by_cases c : i = j
    · subst c
      rw [if_pos rfl]
      funext x
      unfold srF rotF
      try dsimp only
      repeat' split
      all_goals first | rfl | (exfalso; omega) | (congr 1; omega)
    · rw [if_neg c]
      by_cases c2 : j < i
      · rw [if_pos c2, ih _ m (i - j) j (by omega) hj (by omega) (by omega)]
        funext x
        unfold srF rotF
        try dsimp only
        repeat' split
        all_goals first | rfl | (exfalso; omega) | (congr 1; omega)
      · rw [if_neg c2, ih _ m i (j - i) hi (by omega) him (by omega)]
        funext x
        unfold srF rotF
        try dsimp only
        repeat' split
        all_goals first | rfl | (exfalso; omega) | (congr 1; omega)

def start0 (a m b : Nat) : Nat := if (a + b) / 2 < m then (a + b) / 2 + m - b else a
def r0 (a m b : Nat) : Nat := if (a + b) / 2 < m then (a + b) / 2 else m
def startF (lt : Int → Int → Bool) (f : Nat → Int) (a m b : Nat) : Nat := bsr (fun c => !lt (f ((a + b) / 2 + m - 1 - c)) (f c)) (r0 a m b - start0 a m b) (start0 a m b) (r0 a m b)
/-- The merge of [a, m) and [m, b). -/
def symM (lt : Int → Int → Bool) : Nat → Nat → Nat → Nat → (Nat → Int) → (Nat → Int)
  | 0, _, _, _, f => f
  | q + 1, a, m, b, f =>
    if m - a = 1 then upF f a (bsr (fun h => lt (f h) (f a)) (b - m) m b - 1)
    else if b - m = 1 then downF f (bsr (fun h => !lt (f m) (f h)) (m - a) a m) m
    else
      let mid := (a + b) / 2
      let st := startF lt f a m b
      let en := mid + m - st
      let f1 := if st < m ∧ m < en then rotF f st m en else f
      let f2 := if a < st ∧ st < mid then symM lt q a st mid f1 else f1
      if mid < en ∧ en < b then symM lt q mid en b f2 else f2

theorem On.sub {r : Int → Int → Prop} {f : Nat → Int} {a b a' b' : Nat} (h : On r f a b) (h1 : a ≤ a') (h2 : b' ≤ b) : On r f a' b' := fun p q hp hpq hq => h p q (by omega) hpq (by omega)
/-- Two sorted ranges, all of the one ahead of all of the other one. -/
theorem On.join {r : Int → Int → Prop} {f : Nat → Int} {a m b : Nat} (h1 : On r f a m) (h2 : On r f m b) (h3 : ∀ p q, a ≤ p → p < m → m ≤ q → q < b → r (f p) (f q)) : On r f a b := fun p q hp hpq hq => by
  by_cases c1 : q < m
  · exact h1 p q hp hpq c1
  · by_cases c2 : p < m
    · exact h3 p q hp c2 (by omega) hq
    · exact h2 p q (by omega) hpq hq

theorem symM_sorts {lt : Int → Int → Bool} {r : Int → Int → Prop} (ht : ∀ x y z, r x y → r y z → r x z) (has : ∀ x y, r x y → r y x → False) (hl : ∀ x y : Int, y < x → (lt x y = true → r x y) ∧ (lt x y = false → r y x)) (q : Nat) :
    ∀ (a m b : Nat) (f : Nat → Int), a < m → m < b → b - a ≤ q → On r f a m → On r f m b → (∀ p k, a ≤ p → p < m → m ≤ k → k < b → f p < f k) →
      On r (symM lt q a m b f) a b ∧ Same f (symM lt q a m b f) a b := by
  induction q with
  | zero => intro a m b f h1 h2 h3; omega
  | succ q ih =>
    intro a m b f h1 h2 h3 hA hB hX
    have hlt : ∀ p k, a ≤ p → p < m → m ≤ k → k < b → (lt (f k) (f p) = true ↔ r (f k) (f p)) ∧ (lt (f k) (f p) = false ↔ r (f p) (f k)) := by
      intro p k p1 p2 k1 k2
      have h := hl (f k) (f p) (hX p k p1 p2 k1 k2)
      refine ⟨⟨h.1, fun hr => ?_⟩, ⟨h.2, fun hr => ?_⟩⟩
      · cases hc : lt (f k) (f p) with
        | true => rfl
        | false => exact (has _ _ hr (h.2 hc)).elim
      · cases hc : lt (f k) (f p) with
        | false => rfl
        | true => exact (has _ _ hr (h.1 hc)).elim
    unfold symM
    by_cases c1 : m - a = 1
    · rw [if_pos c1]
      obtain rfl : m = a + 1 := by omega
      obtain ⟨b1, b2, b3, b4⟩ := bsr_spec (fun h => lt (f h) (f a)) (b - (a + 1)) (a + 1) b (Nat.le_refl _) (by omega) (fun x y hx hxy hy hp => by
        rw [(hlt a x (Nat.le_refl _) (by omega) hx (by omega)).1]
        have hr := (hlt a y (Nat.le_refl _) (by omega) (by omega) hy).1.1 hp
        by_cases e : x = y
        · subst e; exact hr
        · exact ht _ _ _ (hB x y hx (by omega) hy) hr)
      generalize bsr (fun h => lt (f h) (f a)) (b - (a + 1)) (a + 1) b = i at *
      refine ⟨fun p k hp hpk hk => ?_, up_same f (by omega) (by omega)⟩
      have lo : ∀ x, a + 1 ≤ x → x < i → r (f x) (f a) := fun x hx hxi => (hlt a x (Nat.le_refl _) (by omega) hx (by omega)).1.1 (b3 x hx hxi)
      have hi : ∀ x, i ≤ x → x < b → r (f a) (f x) := fun x hx hxb => (hlt a x (Nat.le_refl _) (by omega) (by omega) hxb).2.1 (b4 x hx hxb)
      unfold upF
      repeat' split
      · exact hB _ _ (by omega) (by omega) (by omega)
      · exact lo _ (by omega) (by omega)
      · exact hB _ _ (by omega) (by omega) (by omega)
      · exfalso; omega
      · exfalso; omega
      · exact hi _ (by omega) (by omega)
      · exfalso; omega
      · exfalso; omega
      · exact hB _ _ (by omega) (by omega) (by omega)
    · rw [if_neg c1]
      by_cases c2 : b - m = 1
      · rw [if_pos c2]
        obtain rfl : b = m + 1 := by omega
        obtain ⟨b1, b2, b3, b4⟩ := bsr_spec (fun h => !lt (f m) (f h)) (m - a) a m (Nat.le_refl _) (by omega) (fun x y hx hxy hy hp => by
          have hr := (hlt y m (by omega) hy (Nat.le_refl _) (by omega)).2.1 (by simpa using hp)
          have : lt (f m) (f x) = false := by
            rw [(hlt x m hx (by omega) (Nat.le_refl _) (by omega)).2]
            by_cases e : x = y
            · subst e; exact hr
            · exact ht _ _ _ (hA x y hx (by omega) hy) hr
          simpa using this)
        generalize bsr (fun h => !lt (f m) (f h)) (m - a) a m = i at *
        refine ⟨fun p k hp hpk hk => ?_, down_same f b1 b2 (by omega)⟩
        have lo : ∀ x, a ≤ x → x < i → r (f x) (f m) := fun x hx hxi => (hlt x m hx (by omega) (Nat.le_refl _) (by omega)).2.1 (by simpa using b3 x hx hxi)
        have hi : ∀ x, i ≤ x → x < m → r (f m) (f x) := fun x hx hxm => (hlt x m (by omega) hxm (Nat.le_refl _) (by omega)).1.1 (by simpa using b4 x hx hxm)
        unfold downF
        repeat' split
        · exfalso; omega
        · exact hi _ (by omega) (by omega)
        · exfalso; omega
        · exfalso; omega
        · exact hA _ _ (by omega) (by omega) (by omega)
        · exfalso; omega
        · exact lo _ (by omega) (by omega)
        · exact hA _ _ (by omega) (by omega) (by omega)
        · exact hA _ _ (by omega) (by omega) (by omega)
      · rw [if_neg c2]
        dsimp only
        obtain ⟨mid, hmid⟩ : ∃ x, x = (a + b) / 2 := ⟨_, rfl⟩
        have hm1 : 2 * mid ≤ a + b := by omega
        have hm2 : a + b ≤ 2 * mid + 1 := by omega
        have hs0 : start0 a m b = if mid < m then mid + m - b else a := by unfold start0; rw [← hmid]
        have hr0 : r0 a m b = if mid < m then mid else m := by unfold r0; rw [← hmid]
        have hst : startF lt f a m b = bsr (fun c => !lt (f (mid + m - 1 - c)) (f c)) (r0 a m b - start0 a m b) (start0 a m b) (r0 a m b) := by unfold startF; rw [← hmid]
        rw [← hmid]
        generalize start0 a m b = s0 at *
        generalize r0 a m b = rr at *
        have k1 : a ≤ s0 := by rw [hs0]; split <;> omega
        have k2 : s0 ≤ rr := by rw [hs0, hr0]; split <;> omega
        have k3 : rr ≤ m := by rw [hr0]; split <;> omega
        have k4 : rr ≤ mid := by rw [hr0]; split <;> omega
        have k5 : mid + m - s0 ≤ b := by rw [hs0]; split <;> omega
        have k6 : s0 = a ∨ mid + m - s0 = b := by rw [hs0]; split <;> omega
        have k7 : rr = m ∨ rr = mid := by rw [hr0]; split <;> omega
        obtain ⟨b1, b2, b3, b4⟩ := bsr_spec (fun c => !lt (f (mid + m - 1 - c)) (f c)) (rr - s0) s0 rr (Nat.le_refl _) k2 (fun x y hx hxy hy hp => by
          have hr := (hlt y (mid + m - 1 - y) (by omega) (by omega) (by omega) (by omega)).2.1 (by simpa using hp)
          have : lt (f (mid + m - 1 - x)) (f x) = false := by
            rw [(hlt x (mid + m - 1 - x) (by omega) (by omega) (by omega) (by omega)).2]
            by_cases e : x = y
            · subst e; exact hr
            · exact ht _ _ _ (ht _ _ _ (hA x y (by omega) (by omega) (by omega)) hr) (hB _ _ (by omega) (by omega) (by omega))
          simpa using this)
        rw [← hst] at b1 b2 b3 b4
        generalize startF lt f a m b = st at *
        clear hst hs0 hr0
        obtain ⟨en, hen⟩ : ∃ x, x = mid + m - st := ⟨_, rfl⟩
        rw [← hen]
        have e1 : m ≤ en := by omega
        have e2 : en ≤ b := by omega
        have e3 : en - m = mid - st := by omega
        have hf1 : (if st < m ∧ m < en then rotF f st m en else f) = rotF f st m en := by
          split
          · rfl
          · funext x
            unfold rotF
            repeat' split
            all_goals first | rfl | (exfalso; omega) | (congr 1; omega)
        rw [hf1]
        have hsame : Same f (rotF f st m en) a b := (rot_same f (by omega) e1).wide (by omega) e2
        have g1 : ∀ x, x < st → rotF f st m en x = f x := fun x hx => by unfold rotF; rw [if_neg (by omega), if_neg (by omega)]
        have g2 : ∀ x, st ≤ x → x < mid → rotF f st m en x = f (x + (m - st)) := fun x hx hx2 => by unfold rotF; rw [if_pos ⟨hx, by omega⟩]
        have g3 : ∀ x, mid ≤ x → x < en → rotF f st m en x = f (x - (en - m)) := fun x hx hx2 => by unfold rotF; rw [if_neg (by omega), if_pos ⟨by omega, hx2⟩]
        have g4 : ∀ x, en ≤ x → rotF f st m en x = f x := fun x hx => by unfold rotF; rw [if_neg (by omega), if_neg (by omega)]
        generalize rotF f st m en = g at *
        have o1 : On r g a st := fun p k hp hpk hk => by rw [g1 p (by omega), g1 k hk]; exact hA p k hp hpk (by omega)
        have o2 : On r g st mid := fun p k hp hpk hk => by rw [g2 p hp (by omega), g2 k (by omega) hk]; exact hB _ _ (by omega) (by omega) (by omega)
        have o3 : On r g mid en := fun p k hp hpk hk => by rw [g3 p hp (by omega), g3 k (by omega) hk]; exact hA _ _ (by omega) (by omega) (by omega)
        have o4 : On r g en b := fun p k hp hpk hk => by rw [g4 p hp, g4 k (by omega)]; exact hB _ _ (by omega) hpk hk
        have ole : ∀ {x y}, a ≤ x → x ≤ y → y < m → r (f x) (f y) ∨ f x = f y := fun {x y} h1 h2 h3 => by
          by_cases e : x = y
          · subst e; exact Or.inr rfl
          · exact Or.inl (hA x y h1 (by omega) h3)
        have ore : ∀ {x y}, m ≤ x → x ≤ y → y < b → r (f x) (f y) ∨ f x = f y := fun {x y} h1 h2 h3 => by
          by_cases e : x = y
          · subst e; exact Or.inr rfl
          · exact Or.inl (hB x y h1 (by omega) h3)
        have chain : ∀ {u v x y}, (r u v ∨ u = v) → r v x → (r x y ∨ x = y) → r u y := fun {u v x y} h1 h2 h3 => by
          have h4 : r u x := by
            rcases h1 with h1 | h1
            · exact ht _ _ _ h1 h2
            · rw [h1]; exact h2
          rcases h3 with h3 | h3
          · exact ht _ _ _ h4 h3
          · rw [← h3]; exact h4
        have cross : ∀ p k, a ≤ p → p < mid → mid ≤ k → k < b → r (g p) (g k) := by
          intro p k p1 p2 q1 q2
          by_cases c3 : p < st
          · rw [g1 p c3]
            by_cases c4 : k < en
            · rw [g3 k q1 c4]; exact hA _ _ p1 (by omega) (by omega)
            · rw [g4 k (by omega)]
              have hgt : s0 < st := by omega
              have hh := b3 (st - 1) (by omega) (by omega)
              have hr := (hlt (st - 1) (mid + m - 1 - (st - 1)) (by omega) (by omega) (by omega) (by omega)).2.1 (by simpa using hh)
              exact chain (ole p1 (by omega) (by omega)) hr (ore (by omega) (by omega) q2)
          · rw [g2 p (by omega) p2]
            by_cases c4 : k < en
            · rw [g3 k q1 c4]
              have hlt' : st < rr := by omega
              have hh := b4 st (by omega) hlt'
              have hr := (hlt st (mid + m - 1 - st) (by omega) (by omega) (by omega) (by omega)).1.1 (by simpa using hh)
              exact chain (ore (by omega) (by omega) (by omega)) hr (ole (by omega) (by omega) (by omega))
            · rw [g4 k (by omega)]; exact hB _ _ (by omega) (by omega) q2
        have x1 : ∀ p k, a ≤ p → p < st → st ≤ k → k < mid → g p < g k := fun p k p1 p2 q1 q2 => by
          rw [g1 p p2, g2 k q1 q2]; exact hX _ _ p1 (by omega) (by omega) (by omega)
        have x2 : ∀ p k, mid ≤ p → p < en → en ≤ k → k < b → g p < g k := fun p k p1 p2 q1 q2 => by
          rw [g3 p p1 p2, g4 k q1]; exact hX _ _ (by omega) (by omega) (by omega) q2
        have hL : On r (if a < st ∧ st < mid then symM lt q a st mid g else g) a mid ∧ Same g (if a < st ∧ st < mid then symM lt q a st mid g else g) a mid := by
          split
          · rename_i h
            exact ih a st mid g h.1 h.2 (by omega) o1 o2 x1
          · refine ⟨?_, Same.refl _ _ _⟩
            by_cases c3 : st = a
            · rw [← c3]; exact o2
            · obtain rfl : st = mid := by omega
              exact o1
        generalize (if a < st ∧ st < mid then symM lt q a st mid g else g) = f2 at *
        obtain ⟨l1, l2⟩ := hL
        have f2r : ∀ x, mid ≤ x → f2 x = g x := fun x hx => (l2.2 x (by omega)).symm
        have hR : On r (if mid < en ∧ en < b then symM lt q mid en b f2 else f2) mid b ∧ Same f2 (if mid < en ∧ en < b then symM lt q mid en b f2 else f2) mid b := by
          have o3' : On r f2 mid en := fun p k hp hpk hk => by rw [f2r p hp, f2r k (by omega)]; exact o3 p k hp hpk hk
          have o4' : On r f2 en b := fun p k hp hpk hk => by rw [f2r p (by omega), f2r k (by omega)]; exact o4 p k hp hpk hk
          split
          · rename_i h
            exact ih mid en b f2 h.1 h.2 (by omega) o3' o4' (fun p k p1 p2 q1 q2 => by rw [f2r p p1, f2r k (by omega)]; exact x2 p k p1 p2 q1 q2)
          · refine ⟨?_, Same.refl _ _ _⟩
            by_cases c3 : en = mid
            · rw [← c3]; exact o4'
            · obtain rfl : en = b := by omega
              exact o3'
        generalize (if mid < en ∧ en < b then symM lt q mid en b f2 else f2) = f3 at *
        obtain ⟨r1, r2⟩ := hR
        refine ⟨On.join (m := mid) (fun p k hp hpk hk => ?_) r1 (fun p k p1 p2 q1 q2 => ?_), hsame.trans ((l2.wide (Nat.le_refl _) (by omega)).trans (r2.wide (by omega) (Nat.le_refl _)))⟩
        · rw [← r2.2 p (by omega), ← r2.2 k (by omega)]; exact l1 p k hp hpk hk
        · rw [← r2.2 p (by omega)]
          obtain ⟨p', p1', p2', pe⟩ := (l2.1 (f2 p)).2 ⟨p, p1, p2, rfl⟩
          obtain ⟨k', k1', k2', ke⟩ := (r2.1 (f3 k)).2 ⟨k, q1, q2, rfl⟩
          rw [← pe, ← ke, f2r k' k1']
          exact cross p' k' p1' p2' k1' k2'

theorem bsr_yes {p : Nat → Bool} {i j : Nat} (h : i < j) (hp : p ((i + j) / 2) = true) : bsr p (j - i) i j = bsr p (j - ((i + j) / 2 + 1)) ((i + j) / 2 + 1) j := by
  rw [show j - i = (j - i - 1) + 1 by omega]
  conv => lhs; unfold bsr
  rw [if_pos h, if_pos hp]
  exact bsr_more _ _ _ _ _ (by omega) (Nat.le_refl _)
theorem bsr_no {p : Nat → Bool} {i j : Nat} (h : i < j) (hp : p ((i + j) / 2) = false) : bsr p (j - i) i j = bsr p ((i + j) / 2 - i) i ((i + j) / 2) := by
  rw [show j - i = (j - i - 1) + 1 by omega]
  conv => lhs; unfold bsr
  rw [if_pos h, if_neg (by rw [hp]; simp)]
  exact bsr_more _ _ _ _ _ (by omega) (Nat.le_refl _)
theorem bsr_end {p : Nat → Bool} {i : Nat} : bsr p (i - i) i i = i := by rw [Nat.sub_self]; rfl
theorem up_zero (f : Nat → Int) (a : Nat) : upF f a a = f := by
  funext x
  unfold upF
  repeat' split
  all_goals first | rfl | (exfalso; omega) | (congr 1; omega)
theorem down_zero (f : Nat → Int) (m : Nat) : downF f m m = f := by
  funext x
  unfold downF
  repeat' split
  all_goals first | rfl | (exfalso; omega) | (congr 1; omega)
theorem sr_zero (f : Nat → Int) (a b : Nat) : srF f a b 0 = f := by
  funext x
  unfold srF
  repeat' split
  all_goals first | rfl | (exfalso; omega) | (congr 1; omega)
theorem bsr_bd (p : Nat → Bool) (m : Nat) : ∀ i j, i ≤ j → i ≤ bsr p m i j ∧ bsr p m i j ≤ j := by
  induction m with
  | zero => intro i j h; exact ⟨Nat.le_refl _, h⟩
  | succ m ih =>
    intro i j h
    unfold bsr
    split
    · split
      · have := ih ((i + j) / 2 + 1) j (by omega); omega
      · have := ih i ((i + j) / 2) (by omega); omega
    · exact ⟨Nat.le_refl _, h⟩
end Go.Proofs.Ytihfcohebgemdaa.Sort
