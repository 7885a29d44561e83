/- Contents as values (layer 8): what is left of a row of mutations is a function of it; each call of the program's and of the reference's hands back a content that is known ahead. -/
import Derived.Test.YtgcfhlleaekgfaaGreatDoorRefSplit
namespace Go.Proofs.YtgcfhlleaekgfaaGreatDoor.Mut
open Go.RowKit Go.Sort Go.Proofs.YtgcfhlleaekgfaaGreatDoor.Ord Go.Proofs.YtgcfhlleaekgfaaGreatDoor.RegInv

/-- What is left of these mutations. -/
def leftOf (l : List Mu) : Con :=
  ⟨(cellsRo (setRo (l.map fun m => ((m, .slice none 0 0) : Ro)))).map (·.1), (wipesRo (setRo (l.map fun m => ((m, .slice none 0 0) : Ro)))).map (·.1), (sibsRo (setRo (l.map fun m => ((m, .slice none 0 0) : Ro)))).map (·.1)⟩
theorem leftOf_eq {l : List Mu} {c : Con} (h : Reps (Fits l) c) : c = leftOf l := by
  have g := fits_says (l.map fun m => ((m, .slice none 0 0) : Ro))
  have e : (l.map fun m => ((m, .slice none 0 0) : Ro)).map (·.1) = l := by
    rw [List.map_map]
    exact List.map_id l
  rw [e] at g
  exact Says.eq h g
theorem leftOf_both (l : List Mu) : Reps (Fits l) (leftOf l) ∧ Okc (leftOf l) l.length := by
  obtain ⟨c, h, g⟩ := reps_ex l
  rw [← leftOf_eq h]
  exact ⟨h, g⟩
/-- A content of at most so many mutations: what is left of its own. -/
structure Good (c : Con) (n : Nat) : Prop where
  reps : Reps (fun m => m ∈ c.all) c
  okc : Okc c n
theorem Good.more {c : Con} {n k : Nat} (h : Good c n) (hk : n ≤ k) : Good c k := ⟨h.reps, h.okc.more hk⟩
theorem leftOf_good (l : List Mu) : Good (leftOf l) l.length := ⟨(leftOf_both l).1.self, (leftOf_both l).2⟩
theorem Good.fits {c : Con} {n : Nat} (h : Good c n) (m : Mu) : Fits c.all m ↔ m ∈ c.all := ⟨fun g => g.1, fun g => ⟨g, h.okc.right m g⟩⟩
theorem Good.left {c : Con} {n : Nat} (h : Good c n) : leftOf c.all = c := (leftOf_eq (h.reps.same fun m => (h.fits m).symm)).symm
theorem filter_all (c : Con) (p : Mu → Bool) : (c.filter p).all = c.all.filter p := by
  unfold Con.all Con.filter
  simp only [List.filter_append]
theorem Good.filter {c : Con} {n : Nat} (h : Good c n) (p : Mu → Bool) : Good (c.filter p) n :=
  ⟨h.reps.filter p, ⟨fun m hm => h.okc.right m (Con.mem_filter.1 hm).1, by rw [filter_all]; exact Nat.le_trans (List.length_filter_le _ _) h.okc.len⟩⟩
theorem leftOf_congr {l k : List Mu} (h : ∀ m, Fits l m ↔ Fits k m) : leftOf l = leftOf k := leftOf_eq ((leftOf_both l).1.same h)
theorem fits_append {l k : List Mu} (m : Mu) : Fits (l ++ k) m ↔ Fits l m ∨ Fits k m := by
  unfold Fits
  rw [List.mem_append]
  exact ⟨fun h => h.1.elim (fun g => Or.inl ⟨g, h.2⟩) (fun g => Or.inr ⟨g, h.2⟩), fun h => h.elim (fun g => ⟨Or.inl g.1, g.2⟩) (fun g => ⟨Or.inr g.1, g.2⟩)⟩
/-- What is left of what is left and of others. -/
theorem leftOf_swallow (l k : List Mu) : leftOf ((leftOf l).all ++ k) = leftOf (l ++ k) := by
  have h := (leftOf_both ((leftOf l).all ++ k)).1.same (T := fun m => Fits k m ∨ m ∈ (leftOf l).all) fun m => by
    rw [fits_append, (leftOf_good l).fits]; exact Or.comm
  exact leftOf_eq (((leftOf_both l).1.of_all h).same fun m => by rw [fits_append]; exact Or.comm)
theorem leftOf_comm (l k : List Mu) : leftOf (l ++ k) = leftOf (k ++ l) := leftOf_congr fun m => by rw [fits_append, fits_append]; exact Or.comm
theorem leftOf_swallow2 (l k : List Mu) : leftOf (l ++ (leftOf k).all) = leftOf (l ++ k) := by rw [leftOf_comm, leftOf_swallow, leftOf_comm]
def joinC (c d : Con) : Con := leftOf (c.all ++ d.all)
def addC (c : Con) (m : Mu) : Con := leftOf (c.all ++ [m])
theorem joinC_left (l k : List Mu) : joinC (leftOf l) (leftOf k) = leftOf (l ++ k) := by unfold joinC; rw [leftOf_swallow, leftOf_swallow2]
theorem joinC_good {c d : Con} {n k : Nat} (h : Good c n) (g : Good d k) : Good (joinC c d) (n + k) := (leftOf_good _).more (by rw [List.length_append]; have := h.okc.len; have := g.okc.len; omega)
theorem addC_left (l : List Mu) (m : Mu) : addC (leftOf l) m = leftOf (l ++ [m]) := leftOf_swallow l [m]
theorem addC_good {c : Con} {n : Nat} (h : Good c n) (m : Mu) : Good (addC c m) (n + 1) := (leftOf_good _).more (by rw [List.length_append, List.length_singleton]; have := h.okc.len; omega)
/-- Both parts of a content are all of it. -/
theorem parts_join {c : Con} {n : Nat} (h : Good c n) (p : Mu → Bool) : joinC (c.filter p) (c.filter fun m => !p m) = c := by
  unfold joinC
  rw [filter_all, filter_all]
  conv => rhs; rw [← h.left]
  refine leftOf_congr fun m => ?_
  unfold Fits
  rw [List.mem_append, List.mem_filter, List.mem_filter]
  constructor
  · rintro ⟨g | g, g2⟩
    · exact ⟨g.1, g2⟩
    · exact ⟨g.1, g2⟩
  · rintro ⟨g, g2⟩
    refine ⟨?_, g2⟩
    cases hp : p m
    · exact Or.inr ⟨g, by simp [hp]⟩
    · exact Or.inl ⟨g, rfl⟩
/-- All of it, rising. -/
def allF (c : Con) : List Mu := c.all.mergeSort fun a b => decide (muC a b ≤ 0)
theorem sorted_all (l : List Mu) : (l.mergeSort fun a b => decide (muC a b ≤ 0)).Pairwise fun a b => muC a b ≤ 0 := by
  refine (List.pairwise_mergeSort (le := fun a b => decide (muC a b ≤ 0)) ?_ ?_ l).imp fun h => of_decide_eq_true h
  · intro a b c h1 h2
    exact decide_eq_true (muO.le_le (of_decide_eq_true h1) (of_decide_eq_true h2))
  · intro a b
    have := muO.swap a b
    by_cases h : muC a b ≤ 0
    · simp [h]
    · have : muC b a ≤ 0 := by omega
      simp [this]
theorem Good.allOf {c : Con} {n : Nat} (h : Good c n) : AllOf c (allF c) := AllOf.of_perm h.reps (List.mergeSort_perm _ _) (sorted_all _)
theorem Good.all_eq {c : Con} {n : Nat} (h : Good c n) {l : List Mu} (hl : AllOf c l) : l = allF c := hl.unique h.allOf
theorem mem_allF {c : Con} {m : Mu} : m ∈ allF c ↔ m ∈ c.all := (List.mergeSort_perm _ _).mem_iff
theorem len_allF (c : Con) : (allF c).length = c.all.length := (List.mergeSort_perm _ _).length_eq

/-! ## Values that are contents -/
def IsC (c : Con) (v : Value) (w : World) : Prop := ∃ a b d, v = .agg #[a, b, d] ∧ Lies w a b d c
theorem IsC.below {c : Con} {v : Value} {w w' : World} (h : IsC c v w) (hb : RowKit.Below w.heap.size w w') : IsC c v w' := by
  obtain ⟨a, b, d, e, h⟩ := h
  exact ⟨a, b, d, e, h.below hb⟩
theorem Lies.is {w : World} {a b d : Value} {c : Con} (h : Lies w a b d c) : IsC c (.agg #[a, b, d]) w := ⟨a, b, d, rfl, h⟩
theorem IsC.plain3 {c : Con} {v : Value} {w w' : World} (h : IsC c v w) (hp : Plain3 w w') : IsC c v w' := by
  obtain ⟨a, b, d, e, h⟩ := h
  exact ⟨a, b, d, e, h.plain3 hp⟩
theorem IsC.form {c : Con} {v : Value} {w : World} (h : IsC c v w) : ∃ o1 n1 k1 o2 n2 k2 o3 n3 k3, v = .agg #[.slice o1 n1 k1, .slice o2 n2 k2, .slice o3 n3 k3] ∧ Lies w (.slice o1 n1 k1) (.slice o2 n2 k2) (.slice o3 n3 k3) c := by
  obtain ⟨a, b, d, rfl, h⟩ := h
  obtain ⟨o1, n1, k1, rfl⟩ := h.cells.slice
  obtain ⟨o2, n2, k2, rfl⟩ := h.wipes.slice
  obtain ⟨o3, n3, k3, rfl⟩ := h.sibs.slice
  exact ⟨o1, n1, k1, o2, n2, k2, o3, n3, k3, rfl, h⟩
/-- A known content comes back. -/
def RetC (c : Con) (w : World) (e : Ending) (w' : World) : Prop := ∃ v, e = .returned v ∧ IsC c v w' ∧ RowKit.Below w.heap.size w w'
/-- A known row comes back. -/
def RetR (l : List Mu) (w : World) (e : Ending) (w' : World) : Prop := ∃ v, e = .returned v ∧ Reads w' v l ∧ RowKit.Below w.heap.size w w'
/-- A known truth value comes back. -/
def RetB (q : Bool) (w : World) (e : Ending) (w' : World) : Prop := e = .returned (.bool q) ∧ RowKit.Below w.heap.size w w'

section
variable {c c' : Con} {n n' : Nat} {v v' : Value} {w : World}
theorem c_of {l : List Mu} (hT : Tabs w) (hv : Reads w v l) (hn : l.length ≤ 10000) (hs : ∀ m ∈ l, Small m) : Calls Tryz.prog 9 #[v] w (RetC (leftOf l) w) := by
  obtain ⟨R, rfl, hv⟩ := hv
  refine (of_any v R w hT hv (by simpa using hn) (fun x hx => hs _ (List.mem_map.2 ⟨x, hx, rfl⟩))).mono ?_
  rintro e w' ⟨a, b, d, c, rfl, hl, hr, -, hb⟩
  rw [← leftOf_eq hr]
  exact ⟨_, rfl, hl.is, hb⟩
theorem c_refof {l : List Mu} (hT : Tabs w) (hv : Reads w v l) (hn : l.length ≤ 10000) (hs : ∀ m ∈ l, Small m) : Calls Tryz.prog 10 #[v] w (RetC (leftOf l) w) := by
  obtain ⟨R, rfl, hv⟩ := hv
  refine (refof_con v R w hT hv (fun x hx => hs _ (List.mem_map.2 ⟨x, hx, rfl⟩)) (by simpa using hn)).mono ?_
  rintro e w' ⟨a, b, d, c, rfl, hl, hr, -, hb⟩
  rw [← leftOf_eq hr]
  exact ⟨_, rfl, hl.is, hb⟩
theorem c_join (hT : Tabs w) (hv : IsC c v w) (h : Good c n) (hv' : IsC c' v' w) (h' : Good c' n') (hn : n + n' ≤ 90000) : Calls Tryz.prog 13 #[v, v'] w (RetC (joinC c c') w) := by
  obtain ⟨a, b, d, rfl, hl⟩ := hv
  obtain ⟨a', b', d', rfl, hl'⟩ := hv'
  refine (join_any a b d a' b' d' c c' _ _ n n' w hT hl h.reps h.okc hl' h'.reps h'.okc hn).mono ?_
  rintro e w' ⟨a, b, d, c2, rfl, hl, hr, -, hb⟩
  have : c2 = joinC c c' := leftOf_eq (hr.same fun m => by rw [fits_append, h.fits, h'.fits])
  rw [← this]
  exact ⟨_, rfl, hl.is, hb⟩
theorem c_refjoin (hT : Tabs w) (hv : IsC c v w) (h : Good c n) (hv' : IsC c' v' w) (h' : Good c' n') (hn : n + n' ≤ 9000) : Calls Tryz.prog 20 #[v, v'] w (RetC (joinC c c') w) := by
  obtain ⟨a, b, d, rfl, hl⟩ := hv
  obtain ⟨a', b', d', rfl, hl'⟩ := hv'
  refine (refjoin_any a b d a' b' d' c c' _ _ n n' w hT hl h.reps h.okc hl' h'.reps h'.okc hn).mono ?_
  rintro e w' ⟨a, b, d, c2, rfl, hl, hr, -, hb⟩
  have : c2 = joinC c c' := leftOf_eq (hr.same fun m => by rw [fits_append, h.fits, h'.fits])
  rw [← this]
  exact ⟨_, rfl, hl.is, hb⟩
theorem c_add {x : Ro} (hT : Tabs w) (hv : IsC c v w) (h : Good c n) (hn : n ≤ 100000) (hx : Over w x) (hs : Small x.1) : Calls Tryz.prog 12 #[v, vM x] w (RetC (addC c x.1) w) := by
  obtain ⟨a, b, d, rfl, hl⟩ := hv
  refine (add_any a b d c _ n x w hT hl h.reps h.okc hn hx hs).mono ?_
  rintro e w' ⟨a, b, d, c2, rfl, hl, hr, -, hb⟩
  have : c2 = addC c x.1 := leftOf_eq (hr.same fun m => by
    rw [fits_append, h.fits]
    unfold Fits
    rw [List.mem_singleton]
    exact or_congr_right ⟨fun g => ⟨g.1, g.1 ▸ g.2⟩, fun g => ⟨g.1, g.1 ▸ g.2⟩⟩)
  rw [← this]
  exact ⟨_, rfl, hl.is, hb⟩
theorem c_above (s : Stp) (hv : IsC c v w) (h : Good c n) (hn : n ≤ 100000) : Calls Tryz.prog 18 #[v, vS s] w (RetC (c.filter fun m => decide (stC s m.at_ < 0)) w) := by
  obtain ⟨a, b, d, rfl, hl⟩ := hv
  refine (above_any a b d c n s w hl h.okc hn).mono ?_
  rintro e w' ⟨a, b, d, rfl, hl, hb⟩
  exact ⟨_, rfl, hl.is, hb⟩
theorem c_upto (s : Stp) (hv : IsC c v w) (h : Good c n) (hn : n ≤ 100000) : Calls Tryz.prog 19 #[v, vS s] w (RetC (c.filter fun m => !decide (stC s m.at_ < 0)) w) := by
  obtain ⟨a, b, d, rfl, hl⟩ := hv
  refine (upto_any a b d c n s w hl h.okc hn).mono ?_
  rintro e w' ⟨a, b, d, rfl, hl, hb⟩
  exact ⟨_, rfl, hl.is, hb⟩
theorem c_refsplit (s : Stp) (later : Bool) (hv : IsC c v w) (h : Good c n) (hn : n ≤ 100000) : Calls Tryz.prog 15 #[v, vS s, .bool later] w (RetC (c.filter fun m => decide (stC s m.at_ < 0) == later) w) := by
  obtain ⟨a, b, d, rfl, hl⟩ := hv
  refine (refsplit_any a b d c s later w hl (Nat.le_trans h.okc.len hn)).mono ?_
  rintro e w' ⟨a, b, d, rfl, hl, hb⟩
  exact ⟨_, rfl, hl.is, hb⟩
theorem c_same (q : Bool) (hq : q = true ↔ c = c') (hv : IsC c v w) (h : Good c n) (hv' : IsC c' v' w) (h' : Good c' n') (hn : n ≤ 100000) (hn' : n' ≤ 100000) : Calls Tryz.prog 16 #[v, v'] w (RetB q w) := by
  obtain ⟨a, b, d, rfl, hl⟩ := hv
  obtain ⟨a', b', d', rfl, hl'⟩ := hv'
  exact same_con a b d a' b' d' c c' _ _ n n' w q hq hl h.reps h.okc hl' h'.reps h'.okc hn hn'
theorem c_refsame (q : Bool) (hq : q = true ↔ c = c') (hv : IsC c v w) (h : Good c n) (hv' : IsC c' v' w) (h' : Good c' n') : Calls Tryz.prog 17 #[v, v'] w (RetB q w) := by
  obtain ⟨a, b, d, rfl, hl⟩ := hv
  obtain ⟨a', b', d', rfl, hl'⟩ := hv'
  exact refsame8_any a b d a' b' d' c c' q w hq hl hl' (fun m hm => small_right (h.okc.right m hm)) (fun m hm => small_right (h'.okc.right m hm))
theorem c_is (q : Bool) (hq : q = true ↔ c = c') (hv : IsC c v w) (h : Good c n) (hv' : IsC c' v' w) (h' : Good c' n') : Calls Tryz.prog 11 #[v, v'] w (RetB q w) := by
  obtain ⟨a, b, d, rfl, hl⟩ := hv
  obtain ⟨a', b', d', rfl, hl'⟩ := hv'
  exact is_any a b d a' b' d' c c' q w hq hl hl' (fun m hm => small_right (h.okc.right m hm)) (fun m hm => small_right (h'.okc.right m hm))
theorem c_all (hv : IsC c v w) (h : Good c n) (hn : n ≤ 100000) : Calls Tryz.prog 22 #[v] w fun e w' => ∃ g cap R, e = .returned (.slice (some ⟨g, 0, none⟩) R.length cap) ∧ Copied w' (.slice (some ⟨g, 0, none⟩) R.length cap) R w.heap.size ∧ R.map (·.1) = allF c ∧ RowKit.Below w.heap.size w w' := by
  obtain ⟨a, b, d, rfl, hl⟩ := hv
  refine (all_any a b d c n w hl h.okc hn).mono ?_
  rintro e w' ⟨g, cap, R, rfl, hc, hp, hs, hb⟩
  have e1 : c.all.length = R.length := by have := hp.length_eq; simpa using this.symm
  rw [e1] at hc ⊢
  exact ⟨g, cap, R, rfl, hc, h.all_eq (AllOf.of_perm h.reps hp hs), hb⟩
theorem c_refall (hv : IsC c v w) (h : Good c n) (hn : n ≤ 90000) : Calls Tryz.prog 23 #[v] w (RetR (allF c) w) := by
  obtain ⟨a, b, d, rfl, hc⟩ := hv
  obtain ⟨⟨A, ea, hA⟩, ⟨B, eb, hB⟩, ⟨D, ed, hD⟩⟩ := hc
  obtain ⟨q1, q2, q3⟩ := allRo_spec A B D
  have hln : c.all.length = A.length + (B.length + D.length) := by unfold Con.all; rw [← ea, ← eb, ← ed]; simp
  have hlo := h.okc.len
  refine (refall_any a b d A B D w hA hB hD (fun x hx => small_right (h.okc.right _ (Con.mem_all.2 ?_))) (by omega)).mono ?_
  · rcases hx with h | h | h
    · exact Or.inl (ea ▸ List.mem_map.2 ⟨x, h, rfl⟩)
    · exact Or.inr (Or.inl (eb ▸ List.mem_map.2 ⟨x, h, rfl⟩))
    · exact Or.inr (Or.inr (ed ▸ List.mem_map.2 ⟨x, h, rfl⟩))
  · rintro e w' ⟨v, rfl, hv, hb⟩
    exact ⟨v, rfl, ⟨_, h.all_eq ⟨q1, fun m => by rw [q2, Con.mem_all, ea, eb, ed]⟩, hv⟩, hb⟩
end
end Go.Proofs.YtgcfhlleaekgfaaGreatDoor.Mut
