/- Layer 6 (dots), in plain Lean: rows of writes, rising, each once; which are known without gaps, and the others. No Go in sight. -/
import Derived.Test.YtihfcohebgemdaaVecPlain
set_option linter.unusedSimpArgs false
set_option linter.unusedVariables false
namespace Go.Proofs.Ytihfcohebgemdaa.Dots
open Go.Proofs.Ytihfcohebgemdaa.Vec

/-- By who wrote them, then by their numbers. -/
def lt (a b : P) : Prop := a.who < b.who ∨ a.who = b.who ∧ a.n < b.n
def lessB (a b : P) : Bool := decide (a.who < b.who) || (a.who == b.who && decide (a.n < b.n))
theorem lessB_iff (a b : P) : lessB a b = true ↔ lt a b := by unfold lessB lt; simp
theorem lt_irrefl (a : P) : ¬ lt a a := by unfold lt; omega
theorem lt_trans {a b c : P} (h : lt a b) (k : lt b c) : lt a c := by unfold lt at *; omega
theorem lt_asymm {a b : P} (h : lt a b) (k : lt b a) : False := by unfold lt at *; omega
theorem lt_tri (a b : P) : lt a b ∨ a = b ∨ lt b a := by
  unfold lt
  by_cases h : a.who = b.who
  · by_cases h2 : a.n = b.n
    · right; left; cases a; cases b; simp_all
    · omega
  · omega
def Str (l : List P) : Prop := l.Pairwise lt
theorem Str.ext : ∀ {a b : List P}, Str a → Str b → (∀ x, x ∈ a ↔ x ∈ b) → a = b
  | [], [], _, _, _ => rfl
  | [], y :: b, _, _, h => absurd ((h y).2 (by simp)) (by simp)
  | x :: a, [], _, _, h => absurd ((h x).1 (by simp)) (by simp)
  | x :: a, y :: b, ha, hb, h => by
    have pa := List.pairwise_cons.1 ha
    have pb := List.pairwise_cons.1 hb
    have hxy : x = y := by
      have h1 := (h x).1 (by simp)
      have h2 := (h y).2 (by simp)
      rcases List.mem_cons.1 h1 with e | e
      · exact e
      · rcases List.mem_cons.1 h2 with f | f
        · exact f.symm
        · exact (lt_asymm (pa.1 y f) (pb.1 x e)).elim
    subst hxy
    rw [Str.ext pa.2 pb.2 fun z => ?_]
    constructor
    · intro hz
      rcases List.mem_cons.1 ((h z).1 (by simp [hz])) with e | e
      · subst e; exact (lt_irrefl _ (pa.1 z hz)).elim
      · exact e
    · intro hz
      rcases List.mem_cons.1 ((h z).2 (by simp [hz])) with e | e
      · subst e; exact (lt_irrefl _ (pb.1 z hz)).elim
      · exact e

/-- A write is known. -/
def inK (K : List P) (d : P) : Prop := right d = true ∧ d.n ≤ getF K d.who
/-- How far each writer's writes go without a gap. -/
def Height (k : List P) (M : P → Prop) : Prop := ∀ w, 0 ≤ w → (∀ j, 1 ≤ j → j ≤ getF k w → M ⟨w, j⟩) ∧ ¬ M ⟨w, getF k w + 1⟩
theorem Height.mono {k : List P} {M M' : P → Prop} (h : Height k M) (e : ∀ x, M x ↔ M' x) : Height k M' := fun w hw => ⟨fun j h1 h2 => (e _).1 ((h w hw).1 j h1 h2), fun hm => (h w hw).2 ((e _).2 hm)⟩
theorem Height.base {K : List P} (hK : Vec.Good K) : Height K (inK K) := fun w hw => ⟨fun j h1 h2 => by
  have := hK.nonneg w
  exact ⟨(right_iff _).2 ⟨hw, h1, by show j ≤ _; omega⟩, h2⟩, fun h => by have := h.2; simp only [] at this; omega⟩
theorem Height.ge {K k : List P} {M : P → Prop} (hK : Vec.Good K) (hk : Vec.Good k) (h : Height k M) (hM : ∀ x, inK K x → M x) (w : Int) : getF K w ≤ getF k w := by
  by_cases hw : 0 ≤ w
  · refine Int.not_lt.1 fun hlt => (h w hw).2 (hM _ ?_)
    have h1 := hK.nonneg w
    have h2 := hk.nonneg w
    exact ⟨(right_iff _).2 ⟨hw, by show 1 ≤ _ + 1; omega, by show getF k w + 1 ≤ _; omega⟩, by show getF k w + 1 ≤ getF K w; omega⟩
  · have := hK.get w
    have := hk.nonneg w
    omega
theorem Height.uniq {k k' : List P} {M : P → Prop} (hk : Vec.Good k) (hk' : Vec.Good k') (h : Height k M) (h' : Height k' M) : k = k' := by
  refine Vec.Good.ext hk hk' fun w => ?_
  have g1 := hk.get w
  have g2 := hk'.get w
  have n1 := hk.nonneg w
  have n2 := hk'.nonneg w
  by_cases hw : 0 ≤ w
  · by_cases c1 : getF k w < getF k' w
    · exact ((h w hw).2 ((h' w hw).1 _ (by omega) (by omega))).elim
    · by_cases c2 : getF k' w < getF k w
      · exact ((h' w hw).2 ((h w hw).1 _ (by omega) (by omega))).elim
      · omega
  · omega

/-- One write more of the others. -/
def packS (s : List P × List P) (d : P) : List P × List P :=
  if d.n = getF s.1 d.who + 1 then (setF s.1 d, s.2) else if right d = true ∧ d.n ≤ getF s.1 d.who then s else (s.1, s.2 ++ [d])
def packF (K R : List P) : List P × List P := R.foldl packS (K, [])
/-- What is above what is known. -/
def ovr (k l : List P) : List P := l.filter fun d => decide (getF k d.who < d.n)
theorem mem_over {k l : List P} {x : P} : x ∈ ovr k l ↔ x ∈ l ∧ getF k x.who < x.n := by unfold ovr; simp
theorem over_str {k l : List P} (h : Str l) : Str (ovr k l) := List.Pairwise.filter _ h
theorem over_len (k l : List P) : (ovr k l).length ≤ l.length := List.length_filter_le _ _
structure PInv (K pre : List P) (s : List P × List P) : Prop where
  good : Vec.Good s.1
  high : Height s.1 fun x => inK K x ∨ x ∈ pre
  rest : s.2 = ovr s.1 pre
theorem PInv.start {K : List P} (hK : Vec.Good K) : PInv K [] (K, []) := ⟨hK, (Height.base hK).mono fun x => by simp, rfl⟩
theorem PInv.step {K pre : List P} {s : List P × List P} (hK : Vec.Good K) (h : PInv K pre s) {d : P} (hr : right d = true) (hp : ∀ x ∈ pre, lt x d) : PInv K (pre ++ [d]) (packS s d) := by
  obtain ⟨k, out⟩ := s
  obtain ⟨hg, hh, hrest⟩ := h
  simp only [] at hg hh hrest
  have hge := Height.ge hK hg hh fun x hx => Or.inl hx
  have hrd := (right_iff d).1 hr
  have hnn := hg.nonneg d.who
  unfold packS
  simp only []
  by_cases c1 : d.n = getF k d.who + 1
  · rw [if_pos c1]
    have hset := (set_good (d := d) hg.1).2
    refine ⟨hg.set hr, fun w hw => ?_, ?_⟩
    · rw [hset w]
      by_cases c : w = d.who
      · subst c
        rw [if_pos rfl]
        refine ⟨fun j h1 h2 => ?_, fun hm => ?_⟩
        · by_cases cj : j = d.n
          · subst cj; exact Or.inr (by simp)
          · rcases (hh d.who hw).1 j h1 (by omega) with e | e
            · exact Or.inl e
            · exact Or.inr (by simp [e])
        · rcases hm with e | e
          · have h2 := e.2
            simp only [] at h2
            have := hge d.who
            omega
          · rcases List.mem_append.1 e with e | e
            · have := hp _ e
              unfold lt at this
              simp only [] at this
              omega
            · have := List.mem_singleton.1 e
              have e2 := congrArg P.n this
              simp only [] at e2
              omega
      · rw [if_neg c]
        refine ⟨fun j h1 h2 => ?_, fun hm => ?_⟩
        · rcases (hh w hw).1 j h1 h2 with e | e
          · exact Or.inl e
          · exact Or.inr (by simp [e])
        · rcases hm with e | e
          · exact (hh w hw).2 (Or.inl e)
          · rcases List.mem_append.1 e with e | e
            · exact (hh w hw).2 (Or.inr e)
            · have := List.mem_singleton.1 e
              have e2 := congrArg P.who this
              exact c e2
    · show out = ovr (setF k d) (pre ++ [d])
      rw [hrest]
      unfold ovr
      rw [List.filter_append, List.filter_cons, hset d.who, if_pos rfl]
      rw [if_neg (by simp), List.filter_nil, List.append_nil]
      refine List.filter_congr fun x hx => ?_
      rw [hset x.who]
      by_cases c : x.who = d.who
      · rw [if_pos c]
        have := hp x hx
        unfold lt at this
        rw [c]
        exact decide_eq_decide.2 (by omega)
      · rw [if_neg c]
  · rw [if_neg c1]
    by_cases c2 : d.n ≤ getF k d.who
    · rw [if_pos ⟨hr, c2⟩]
      refine ⟨hg, hh.mono fun x => ⟨fun e => ?_, fun e => ?_⟩, ?_⟩
      · rcases e with e | e
        · exact Or.inl e
        · exact Or.inr (by simp [e])
      · rcases e with e | e
        · exact Or.inl e
        · rcases List.mem_append.1 e with e | e
          · exact Or.inr e
          · have := List.mem_singleton.1 e
            subst this
            exact (hh x.who hrd.1).1 x.n hrd.2.1 c2
      · show out = ovr k (pre ++ [d])
        rw [hrest]
        unfold ovr
        rw [List.filter_append, List.filter_cons, if_neg (by simp; omega), List.filter_nil, List.append_nil]
    · rw [if_neg (fun h => c2 h.2)]
      refine ⟨hg, fun w hw => ⟨fun j h1 h2 => ?_, fun hm => ?_⟩, ?_⟩
      · rcases (hh w hw).1 j h1 h2 with e | e
        · exact Or.inl e
        · exact Or.inr (by simp [e])
      · rcases hm with e | e
        · exact (hh w hw).2 (Or.inl e)
        · rcases List.mem_append.1 e with e | e
          · exact (hh w hw).2 (Or.inr e)
          · have := List.mem_singleton.1 e
            have e1 := congrArg P.who this
            have e2 := congrArg P.n this
            simp only [] at e1 e2
            rw [e1] at e2
            omega
      · show out ++ [d] = ovr k (pre ++ [d])
        rw [hrest]
        unfold ovr
        rw [List.filter_append, List.filter_cons, if_pos (by simp; omega), List.filter_nil]
theorem PInv.run {K : List P} (hK : Vec.Good K) : ∀ (R pre : List P) (s : List P × List P), PInv K pre s → Str (pre ++ R) → (∀ x ∈ R, right x = true) → PInv K (pre ++ R) (R.foldl packS s)
  | [], pre, s, h, _, _ => by rw [List.append_nil]; exact h
  | d :: R, pre, s, h, hs, hr => by
    have hs2 := List.pairwise_append.1 hs
    have e : pre ++ d :: R = (pre ++ [d]) ++ R := by simp
    rw [e] at hs ⊢
    exact PInv.run hK R (pre ++ [d]) (packS s d) (h.step hK (hr d (by simp)) fun x hx => hs2.2.2 x hx d (by simp)) hs fun x hx => hr x (by simp [hx])
theorem pack_inv {K R : List P} (hK : Vec.Good K) (hs : Str R) (hr : ∀ x ∈ R, right x = true) : PInv K R (packF K R) := by
  have := PInv.run hK R [] (K, []) (PInv.start hK) (by simpa using hs) hr
  rw [List.nil_append] at this
  exact this

/-- Of each writer up to where there are no gaps; the others. -/
def knS (out : List P) (d : P) : List P := if d.n = getF out d.who + 1 then setF out d else out
def kn (l : List P) : List P := l.foldl knS []
def rs (l : List P) : List P := ovr (kn l) l
theorem kn_pack : ∀ (R : List P) (s : List P × List P), (R.foldl packS s).1 = R.foldl knS s.1
  | [], _ => rfl
  | d :: R, s => by
    rw [List.foldl_cons, List.foldl_cons, kn_pack R]
    congr 1
    unfold packS knS
    split
    · rfl
    · split <;> rfl
structure Fine (l : List P) : Prop where
  str : Str l
  ok : ∀ x ∈ l, right x = true
theorem kn_inv {l : List P} (h : Fine l) : PInv [] l (kn l, rs l) := by
  have h1 := pack_inv Vec.Good.nil h.str h.ok
  have e1 : (packF [] l).1 = kn l := kn_pack l ([], [])
  obtain ⟨a, b, c⟩ := h1
  rw [e1] at a b c
  exact ⟨a, b, rfl⟩
theorem inK_nil (x : P) : ¬ inK [] x := fun h => by
  have h1 := (right_iff x).1 h.1
  have h2 := h.2
  have : getF [] x.who = 0 := rfl
  omega
theorem kn_good {l : List P} (h : Fine l) : Vec.Good (kn l) := (kn_inv h).good
theorem kn_high {l : List P} (h : Fine l) : Height (kn l) fun x => x ∈ l := (kn_inv h).high.mono fun x => ⟨fun e => e.resolve_left (inK_nil x), Or.inr⟩
/-- What is in it is known, or one of the others. -/
theorem mem_parts {l : List P} (h : Fine l) (x : P) : x ∈ l ↔ inK (kn l) x ∨ x ∈ rs l := by
  constructor
  · intro hx
    by_cases c : x.n ≤ getF (kn l) x.who
    · exact Or.inl ⟨h.ok x hx, c⟩
    · exact Or.inr (mem_over.2 ⟨hx, by omega⟩)
  · rintro (e | e)
    · have := (right_iff x).1 e.1
      exact (kn_high h x.who this.1).1 x.n this.2.1 e.2
    · exact (mem_over.1 e).1
/-- PACKED: what is known and what is not, of all together. -/
theorem pack_eq {K R l : List P} (hK : Vec.Good K) (hs : Str R) (hr : ∀ x ∈ R, right x = true) (hl : Fine l) (h : ∀ x, x ∈ l ↔ inK K x ∨ x ∈ R) : packF K R = (kn l, rs l) := by
  obtain ⟨a, b, c⟩ := pack_inv hK hs hr
  have e1 : (packF K R).1 = kn l := Height.uniq a (kn_good hl) b ((kn_high hl).mono h)
  have e2 : (packF K R).2 = rs l := by
    rw [c, e1]
    refine Str.ext (over_str hs) (over_str hl.str) fun x => ?_
    unfold rs
    rw [mem_over, mem_over, h x]
    constructor
    · rintro ⟨h1, h2⟩; exact ⟨Or.inr h1, h2⟩
    · rintro ⟨h1 | h1, h2⟩
      · have := Height.ge hK (kn_good hl) (kn_high hl) (fun x hx => (h x).2 (Or.inl hx)) x.who
        have := h1.2
        omega
      · exact ⟨h1, h2⟩
  rw [← e1, ← e2]
theorem knS_len (out : List P) (d : P) : (knS out d).length ≤ out.length + 1 := by
  unfold knS
  split
  · exact setF_len _ _
  · omega
theorem kn_len2 : ∀ (l a : List P), (l.foldl knS a).length ≤ a.length + l.length
  | [], a => by simp
  | x :: t, a => by
    have h1 := knS_len a x
    have h2 := kn_len2 t (knS a x)
    rw [List.foldl_cons, List.length_cons]
    omega
theorem kn_len (l : List P) : (kn l).length ≤ l.length := by have := kn_len2 l []; unfold kn; simp only [List.length_nil, Nat.zero_add] at this; exact this
theorem rs_len (l : List P) : (rs l).length ≤ l.length := over_len _ _
theorem rs_fine {l : List P} (h : Fine l) : Fine (rs l) := ⟨over_str h.str, fun x hx => h.ok x (mem_over.1 hx).1⟩

/-- With one more. -/
def putG (d : P) : Bool → List P → List P
  | inn, [] => if inn then [] else [d]
  | inn, x :: t => (if !inn && !lessB x d then [d] else []) ++ ((if x != d then [x] else []) ++ putG d (inn || (!inn && !lessB x d)) t)
def putF (l : List P) (d : P) : List P := putG d false l
theorem putG_in (d : P) : ∀ l, putG d true l = l.filter fun x => x != d
  | [] => rfl
  | x :: t => by
    have ih := putG_in d t
    unfold putG
    rw [List.filter_cons]
    simp only [Bool.not_true, Bool.false_and, Bool.or_false, Bool.false_eq_true, if_false, List.nil_append, ih]
    cases hc : x != d <;> simp
theorem putG_len (d : P) : ∀ (l : List P) (inn : Bool), (putG d inn l).length ≤ l.length + 1
  | [], inn => by cases inn <;> simp [putG]
  | x :: t, inn => by
    cases inn
    · unfold putG
      cases hc : lessB x d
      · have h1 := List.length_filter_le (fun x => x != d) t
        simp only [Bool.not_false, Bool.and_self, Bool.or_true, if_true, List.length_append, List.length_cons, List.length_nil]
        rw [putG_in]
        split <;> simp <;> omega
      · have := putG_len d t false
        simp only [Bool.not_false, Bool.not_true, Bool.and_false, Bool.or_false, Bool.false_eq_true, if_false, List.nil_append, List.length_append, List.length_cons]
        split <;> simp <;> omega
    · rw [putG_in]
      have := List.length_filter_le (fun x => x != d) (x :: t)
      omega
theorem put_spec : ∀ {l : List P} (d : P), Str l → Str (putF l d) ∧ ∀ x, x ∈ putF l d ↔ x = d ∨ x ∈ l
  | [], d, _ => ⟨List.pairwise_singleton _ _, fun x => by simp [putF, putG]⟩
  | y :: t, d, h => by
    have hp := List.pairwise_cons.1 h
    obtain ⟨i1, i2⟩ := put_spec d hp.2
    unfold putF putG
    cases hc : lessB y d
    · have hc2 : ¬ lt y d := fun e => by rw [(lessB_iff y d).2 e] at hc; cases hc
      simp only [Bool.not_false, Bool.and_self, Bool.or_true, if_true]
      have hf : t.filter (fun x => x != d) = t := List.filter_eq_self.2 fun z hz => by
        have hyz := hp.1 z hz
        simp only [bne_iff_ne, ne_eq]
        intro e; subst e; exact hc2 hyz
      rw [putG_in, hf]
      rcases lt_tri y d with e | e | e
      · exact (hc2 e).elim
      · subst e
        refine ⟨by simpa using h, fun x => by simp⟩
      · have hne : (y != d) = true := by simp only [bne_iff_ne, ne_eq]; intro e2; subst e2; exact lt_irrefl _ e
        rw [hne]
        refine ⟨?_, fun x => by simp⟩
        show Str (d :: y :: t)
        refine List.pairwise_cons.2 ⟨fun z hz => ?_, h⟩
        rcases List.mem_cons.1 hz with e2 | e2
        · subst e2; exact e
        · exact lt_trans e (hp.1 z e2)
    · have hc2 := (lessB_iff y d).1 hc
      have hne : (y != d) = true := by simp only [bne_iff_ne, ne_eq]; intro e2; subst e2; exact lt_irrefl _ hc2
      simp only [Bool.not_false, Bool.not_true, Bool.and_false, Bool.or_false, Bool.false_eq_true, if_false, List.nil_append, hne, if_true]
      change Str (y :: putF t d) ∧ ∀ x, x ∈ y :: putF t d ↔ _
      refine ⟨List.pairwise_cons.2 ⟨fun z hz => ?_, i1⟩, fun x => ?_⟩
      · rcases (i2 z).1 hz with e | e
        · subst e; exact hc2
        · exact hp.1 z e
      · rw [List.mem_cons, List.mem_cons, i2 x]
        constructor
        · rintro (e | e | e)
          · exact Or.inr (Or.inl e)
          · exact Or.inl e
          · exact Or.inr (Or.inr e)
        · rintro (e | e | e)
          · exact Or.inr (Or.inl e)
          · exact Or.inl e
          · exact Or.inr (Or.inr e)
/-- With a write more, if it may be. -/
def addF (l : List P) (d : P) : List P := if right d = true then putF l d else l
theorem add_fine {l : List P} (h : Fine l) (d : P) : Fine (addF l d) ∧ ∀ x, x ∈ addF l d ↔ (x = d ∧ right d = true) ∨ x ∈ l := by
  unfold addF
  split
  · rename_i hr
    obtain ⟨h1, h2⟩ := put_spec d h.str
    refine ⟨⟨h1, fun x hx => ?_⟩, fun x => ?_⟩
    · rcases (h2 x).1 hx with e | e
      · subst e; exact hr
      · exact h.ok x e
    · rw [h2 x]; simp [hr]
  · rename_i hr
    exact ⟨h, fun x => by simp [hr]⟩
def setOf (l : List P) : List P := l.foldl addF []
theorem fine_nil : Fine [] := ⟨List.Pairwise.nil, by simp⟩
theorem foldl_fine : ∀ (l : List P) {a : List P}, Fine a → Fine (l.foldl addF a) ∧ ∀ x, x ∈ l.foldl addF a ↔ (x ∈ l ∧ right x = true) ∨ x ∈ a
  | [], a, h => ⟨h, fun x => by simp⟩
  | d :: t, a, h => by
    obtain ⟨h1, h2⟩ := add_fine h d
    obtain ⟨i1, i2⟩ := foldl_fine t h1
    refine ⟨i1, fun x => ?_⟩
    rw [List.foldl_cons, i2 x, h2 x, List.mem_cons]
    constructor
    · rintro (⟨e, r⟩ | ⟨e, r⟩ | e)
      · exact Or.inl ⟨Or.inr e, r⟩
      · exact Or.inl ⟨Or.inl e, by rw [e]; exact r⟩
      · exact Or.inr e
    · rintro (⟨e | e, r⟩ | e)
      · exact Or.inr (Or.inl ⟨e, by rw [← e]; exact r⟩)
      · exact Or.inl ⟨e, r⟩
      · exact Or.inr (Or.inr e)
theorem setOf_fine (l : List P) : Fine (setOf l) := (foldl_fine l fine_nil).1
theorem mem_setOf (l : List P) (x : P) : x ∈ setOf l ↔ x ∈ l ∧ right x = true := by rw [setOf, (foldl_fine l fine_nil).2 x]; simp
theorem setOf_snoc (l : List P) (x : P) : setOf (l ++ [x]) = addF (setOf l) x := by unfold setOf; rw [List.foldl_append]; rfl
theorem Fine.ext {a b : List P} (ha : Fine a) (hb : Fine b) (h : ∀ x, x ∈ a ↔ x ∈ b) : a = b := Str.ext ha.str hb.str h
theorem setOf_add {l : List P} (h : Fine l) (d : P) : setOf (l ++ [d]) = addF l d := by
  refine (setOf_fine _).ext (add_fine h d).1 fun x => ?_
  rw [mem_setOf, (add_fine h d).2 x, List.mem_append, List.mem_singleton]
  constructor
  · rintro ⟨e | e, r⟩
    · exact Or.inr e
    · exact Or.inl ⟨e, by rw [← e]; exact r⟩
  · rintro (⟨e, r⟩ | e)
    · exact ⟨Or.inr e, by rw [e]; exact r⟩
    · exact ⟨Or.inl e, h.ok x e⟩
theorem add_len (l : List P) (d : P) : (addF l d).length ≤ l.length + 1 := by
  unfold addF
  split
  · exact putG_len _ _ _
  · omega
theorem setOf_len2 : ∀ (l a : List P), (l.foldl addF a).length ≤ a.length + l.length
  | [], a => by simp
  | x :: t, a => by
    have h1 := add_len a x
    have h2 := setOf_len2 t (addF a x)
    rw [List.foldl_cons, List.length_cons]
    omega
theorem setOf_len (l : List P) : (setOf l).length ≤ l.length := by have := setOf_len2 l []; unfold setOf; simp only [List.length_nil, Nat.zero_add] at this; exact this
theorem add_in {l : List P} (h : Fine l) {d : P} (hd : d ∈ l) : addF l d = l := (add_fine h d).1.ext h fun x => by
  rw [(add_fine h d).2 x]
  constructor
  · rintro (⟨e, _⟩ | e)
    · rw [e]; exact hd
    · exact e
  · exact Or.inr
def hasD (l : List P) (d : P) : Bool := l.any fun x => x == d
theorem hasD_iff (l : List P) (d : P) : hasD l d = true ↔ d ∈ l := by
  unfold hasD
  rw [List.any_eq_true]
  constructor
  · rintro ⟨x, hx, e⟩; rw [← eq_of_beq e]; exact hx
  · exact fun h => ⟨d, h, by simp⟩
def coversD (a b : List P) : Bool := b.all fun x => hasD a x
theorem coversD_iff (a b : List P) : coversD a b = true ↔ ∀ x ∈ b, x ∈ a := by
  unfold coversD
  rw [List.all_eq_true]
  exact ⟨fun h x hx => (hasD_iff a x).1 (h x hx), fun h x hx => (hasD_iff a x).2 (h x hx)⟩
/-- Two sets are the same just if what is known and the others are. -/
theorem same_parts {a b : List P} (ha : Fine a) (hb : Fine b) : a = b ↔ kn a = kn b ∧ rs a = rs b := by
  constructor
  · rintro rfl; exact ⟨rfl, rfl⟩
  · rintro ⟨h1, h2⟩
    exact ha.ext hb fun x => by rw [mem_parts ha, mem_parts hb, h1, h2]
end Go.Proofs.Ytihfcohebgemdaa.Dots
