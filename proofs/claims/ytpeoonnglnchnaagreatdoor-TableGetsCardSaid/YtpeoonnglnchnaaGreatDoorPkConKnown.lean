/- ConSplit, RepsEx, RefSplit, ConFun: in one text. · The bytes of a mutation that may be, by the program and by the document (layer 7). · What was put is read back: texts, stamps (layers 3, 7), in plain Lean. · Mutations read from bytes, and read back (layers 7, 8), in plain Lean. · mut.All: how many mutations there are, and they, as bytes (layer 7). -/
import Derived.Test.YtpeoonnglnchnaaGreatDoorConMore
import Derived.Test.YtpeoonnglnchnaaGreatDoorRegApp
import Derived.Test.YtpeoonnglnchnaaGreatDoorConStore
import Derived.Test.YtpeoonnglnchnaaGreatDoorRefState
import Derived.Test.YtpeoonnglnchnaaGreatDoorPkRefBytes
import Derived.Test.YtpeoonnglnchnaaGreatDoorPkTabSvPut
import Derived.Test.YtpeoonnglnchnaaGreatDoorPkRdMore
set_option linter.unusedSimpArgs false
set_option linter.unusedVariables false
set_option maxHeartbeats 16000000
set_option maxRecDepth 100000
/- The walks of state.Content's split, Above, Upto (layer 8). -/
namespace Go.Proofs.YtpeoonnglnchnaaGreatDoor.Mut
open Go.RowKit Go.Sort Go.Proofs.YtpeoonnglnchnaaGreatDoor.Ord Go.Proofs.YtpeoonnglnchnaaGreatDoor.RegInv
set_option linter.unusedSectionVars false
variable [Inhabited Lim]
end Go.Proofs.YtpeoonnglnchnaaGreatDoor.Mut
/- Of any mutations there is what is left (layer 8), in plain Lean; so the reference's content is the program's. -/
namespace Go.Proofs.YtpeoonnglnchnaaGreatDoor.Mut
open Go.Proofs.YtpeoonnglnchnaaGreatDoor.Ord
set_option linter.unusedSectionVars false
variable [Inhabited Lim]
theorem parts_ex {d : Mu → Mu → Int} (c : Mu → Int) : ∀ (l : List Mu), Rises d l → (∀ x y, d x y < 0 → 0 ≤ c x → 0 ≤ c y) → ∃ i, Parts c l i
  | [], _, _ => ⟨0, Nat.le_refl _, fun k x _ h => by simp at h, fun k x _ h => by simp at h⟩
  | y :: l, hr, hm => by
    unfold Rises at hr
    obtain ⟨h1, h2⟩ := List.pairwise_cons.1 hr
    by_cases hy : c y < 0
    · obtain ⟨i, p1, p2, p3⟩ := parts_ex (d := d) c l h2 hm
      refine ⟨i + 1, by simp; omega, fun k x hk hx => ?_, fun k x hk hx => ?_⟩
      · cases k with
        | zero => obtain rfl : y = x := by simpa using hx
                  exact hy
        | succ k => exact p2 k x (by omega) (by simpa using hx)
      · cases k with
        | zero => omega
        | succ k => exact p3 k x (by omega) (by simpa using hx)
    · refine ⟨0, Nat.zero_le _, fun k x hk _ => by omega, fun k x _ hx => ?_⟩
      cases k with
      | zero => obtain rfl : y = x := by simpa using hx
                omega
      | succ k =>
        have hx' : l[k]? = some x := by simpa using hx
        exact hm y x (h1 x (List.mem_of_getElem? hx')) (by omega)
theorem sort_ex (l : List Mu) : ∃ k : List Mu, k.Perm l ∧ k.Pairwise fun a b => muC a b ≤ 0 := by
  refine ⟨l.mergeSort (fun a b => decide (muC a b ≤ 0)), List.mergeSort_perm _ _, ?_⟩
  refine (List.pairwise_mergeSort (le := fun a b => decide (muC a b ≤ 0)) ?_ ?_ l).imp fun h => of_decide_eq_true h
  · intro a b c h1 h2
    exact decide_eq_true (muO.le_le (of_decide_eq_true h1) (of_decide_eq_true h2))
  · intro a b
    have := muO.swap a b
    by_cases h : muC a b ≤ 0
    · simp [h]
    · have : muC b a ≤ 0 := by omega
      simp [this]
theorem Reps.one_more {S : Mu → Prop} {c : Con} {n : Nat} {m : Mu} (h : Reps S c) (hO : Okc c n) (hm : rightF m = true) : ∃ c', Reps (fun x => S x ∨ x = m) c' ∧ Okc c' (n + 1) := by
  have hf := fit_of hm
  by_cases hs : m.table = 2
  · obtain ⟨i, hp⟩ := parts_ex (d := sibC) (fun x => sibC x m) c.sibs h.rs (fun x y h1 h2 => by have := sib_up m x y h1 h2; omega)
    cases hat : isAt (fun x => sibC x m) c.sibs i with
    | true => exact ⟨c, h.sib_keep hf hs hat, hO.more (by omega)⟩
    | false => exact ⟨_, h.sib_put hf hs hp hat, hO.sibs hm (fun x hx => mem_take_drop.1 hx) (len_put _ _ _)⟩
  · by_cases hk : m.kind = 3
    · cases hany : c.wipes.any (fun x => withinB x m) with
      | true => exact ⟨c, h.wipe_keep hf ⟨hs, hk⟩ hany, hO.more (by omega)⟩
      | false =>
        obtain ⟨l, hp, hl⟩ := sort_ex (c.wipes.filter (fun x => !withinB m x) ++ [m])
        refine ⟨_, h.wipe_put hf ⟨hs, hk⟩ (fun x hx => by
          cases e : withinB x m with
          | false => rfl
          | true => rw [List.any_eq_true.2 ⟨x, hx, e⟩] at hany; cases hany) hp hl, hO.of hm ?_ ?_⟩
        · intro x hx
          rcases Con.mem_all.1 hx with h1 | h1 | h1
          · exact Or.inl (Con.mem_all.2 (Or.inl (List.mem_filter.1 h1).1))
          · rcases List.mem_append.1 (hp.mem_iff.1 h1) with h2 | h2
            · exact Or.inl (Con.mem_all.2 (Or.inr (Or.inl (List.mem_filter.1 h2).1)))
            · exact Or.inr (List.mem_singleton.1 h2)
          · exact Or.inl (Con.mem_all.2 (Or.inr (Or.inr h1)))
        · have e1 := hp.length_eq
          have e2 := List.length_filter_le (fun x => !withinB m x) c.wipes
          have e3 := List.length_filter_le (fun x => !hitsB m x.key x.at_) c.cells
          rw [List.length_append, List.length_singleton] at e1
          unfold Con.all
          simp only [List.length_append]
          omega
    · have hc : isC m := ⟨hs, hk⟩
      by_cases hh : ∃ w ∈ c.wipes, hits w m.key m.at_
      · obtain ⟨w, hw, hh⟩ := hh
        exact ⟨c, h.cell_hit hf hc hw hh, hO.more (by omega)⟩
      · have hh' : ∀ w ∈ c.wipes, ¬ hits w m.key m.at_ := fun w hw e => hh ⟨w, hw, e⟩
        obtain ⟨i, hp⟩ := parts_ex (d := keyC) (fun x => cmpS x.key m.key) c.cells h.rc (fun x y h1 h2 => by have := key_up m x y h1 h2; omega)
        cases hat : isAt (fun x => cmpS x.key m.key) c.cells i with
        | false => exact ⟨_, h.cell_put hf hc hh' hp hat, hO.cells hm (fun x hx => mem_take_drop.1 hx) (len_put _ _ _)⟩
        | true =>
          obtain ⟨x, hx, e⟩ := isAt_some hat
          have e' := (Tot.str.zero _ _).1 e
          by_cases hl : muC x m < 0
          · refine ⟨_, h.cell_set hf hc hh' hx e' hl, hO.cells hm (fun y hy => ?_) (by simp)⟩
            exact List.mem_or_eq_of_mem_set hy
          · exact ⟨c, h.cell_keep hf hc hh' hx e' hl, hO.more (by omega)⟩
theorem fits_nil (m : Mu) : ¬ Fits [] m := fun h => by cases h.1
theorem reps_ex (l : List Mu) : ∃ c, Reps (Fits l) c ∧ Okc c l.length := by
  suffices h : ∀ r : List Mu, ∃ c, Reps (Fits r.reverse) c ∧ Okc c r.reverse.length by
    have := h l.reverse
    rwa [List.reverse_reverse] at this
  intro r
  induction r with
  | nil => exact ⟨⟨[], [], []⟩, Reps.none.same fun m => ⟨fun h => h.elim, fun h => (fits_nil m h).elim⟩, ⟨fun m hm => absurd hm (by simp [Con.all]), Nat.le_refl _⟩⟩
  | cons x r ih =>
    obtain ⟨c, h1, h2⟩ := ih
    rw [List.reverse_cons]
    have hlen : (r.reverse ++ [x]).length = r.reverse.length + 1 := by simp
    rw [hlen]
    cases hx : rightF x with
    | true =>
      obtain ⟨c', h3, h4⟩ := h1.one_more h2 hx
      refine ⟨c', h3.same fun y => ?_, h4⟩
      rw [fits_snoc]
      exact ⟨fun h => h.imp id fun e => ⟨e, hx⟩, fun h => h.imp id fun e => e.1⟩
    | false =>
      refine ⟨c, h1.same fun y => ?_, h2.more (by omega)⟩
      rw [fits_snoc]
      exact ⟨Or.inl, fun h => h.elim id fun e => by rw [hx] at e; exact absurd e.2 (by decide)⟩
end Go.Proofs.YtpeoonnglnchnaaGreatDoor.Mut
/- The walks of cenotaphref08.some, All, Split, Join, Of (layer 8). PRINTED by wip/genrefsplit2.py. -/
namespace Go.Proofs.YtpeoonnglnchnaaGreatDoor.Mut
open Go.RowKit Go.Sort Go.Proofs.YtpeoonnglnchnaaGreatDoor.Ord Go.Proofs.YtpeoonnglnchnaaGreatDoor.RegInv
set_option linter.unusedSectionVars false
variable [Inhabited Lim]
theorem refof_con (v : Value) (R : List Ro) (w : World) (hT : Tabs w) (hv : MRow w v R) (hs : ∀ x ∈ R, Small x.1) (hn : R.length ≤ 10000) :
    Calls Tryz.prog 7 #[v] w (ConP w (Fits (R.map (·.1))) R.length) := by
  refine (refof_any v R w hT hv hs hn).mono ?_
  rintro e w' ⟨a, b, d, c, rfl, hl, hsy, -, hb⟩
  obtain ⟨c0, h1, h2⟩ := reps_ex (R.map (·.1))
  obtain rfl : c0 = c := Says.eq h1 hsy
  rw [List.length_map] at h2
  exact ⟨a, b, d, c0, rfl, hl, h1, h2, hb⟩
end Go.Proofs.YtpeoonnglnchnaaGreatDoor.Mut
/- Contents as values (layer 8): what is left of a row of mutations is a function of it; each call of the program's and of the reference's hands back a content that is known ahead. -/
namespace Go.Proofs.YtpeoonnglnchnaaGreatDoor.Mut
open Go.RowKit Go.Sort Go.Proofs.YtpeoonnglnchnaaGreatDoor.Ord Go.Proofs.YtpeoonnglnchnaaGreatDoor.RegInv
set_option linter.unusedSectionVars false
variable [Inhabited Lim]
def leftOf (l : List Mu) : Con :=
  ⟨(cellsRo (setRo (l.map fun m => ((m, .slice none 0 0) : Ro)))).map (·.1), (wipesRo (setRo (l.map fun m => ((m, .slice none 0 0) : Ro)))).map (·.1), (sibsRo (setRo (l.map fun m => ((m, .slice none 0 0) : Ro)))).map (·.1)⟩
theorem leftOf_eq {l : List Mu} {c : Con} (h : Reps (Fits l) c) : c = leftOf l := by
  have g := fits_says (l.map fun m => ((m, .slice none 0 0) : Ro))
  have e : (l.map fun m => ((m, .slice none 0 0) : Ro)).map (·.1) = l := by
    rw [List.map_map]
    exact List.map_id l
  rw [e] at g
  exact Says.eq h g
theorem leftOf_both (l : List Mu) : Reps (Fits l) (leftOf l) ∧ Okc (leftOf l) l.length := by
  obtain ⟨c, h, g⟩ := reps_ex l
  rw [← leftOf_eq h]
  exact ⟨h, g⟩
structure Good (c : Con) (n : Nat) : Prop where
  reps : Reps (fun m => m ∈ c.all) c
  okc : Okc c n
theorem Good.more {c : Con} {n k : Nat} (h : Good c n) (hk : n ≤ k) : Good c k := ⟨h.reps, h.okc.more hk⟩
theorem leftOf_good (l : List Mu) : Good (leftOf l) l.length := ⟨(leftOf_both l).1.self, (leftOf_both l).2⟩
theorem Good.fits {c : Con} {n : Nat} (h : Good c n) (m : Mu) : Fits c.all m ↔ m ∈ c.all := ⟨fun g => g.1, fun g => ⟨g, h.okc.right m g⟩⟩
theorem Good.left {c : Con} {n : Nat} (h : Good c n) : leftOf c.all = c := (leftOf_eq (h.reps.same fun m => (h.fits m).symm)).symm
theorem filter_all (c : Con) (p : Mu → Bool) : (c.filter p).all = c.all.filter p := by
  unfold Con.all Con.filter
  simp only [List.filter_append]
theorem Good.filter {c : Con} {n : Nat} (h : Good c n) (p : Mu → Bool) : Good (c.filter p) n :=
  ⟨h.reps.filter p, ⟨fun m hm => h.okc.right m (Con.mem_filter.1 hm).1, by rw [filter_all]; exact Nat.le_trans (List.length_filter_le _ _) h.okc.len⟩⟩
theorem leftOf_congr {l k : List Mu} (h : ∀ m, Fits l m ↔ Fits k m) : leftOf l = leftOf k := leftOf_eq ((leftOf_both l).1.same h)
theorem fits_append {l k : List Mu} (m : Mu) : Fits (l ++ k) m ↔ Fits l m ∨ Fits k m := by
  unfold Fits
  rw [List.mem_append]
  exact ⟨fun h => h.1.elim (fun g => Or.inl ⟨g, h.2⟩) (fun g => Or.inr ⟨g, h.2⟩), fun h => h.elim (fun g => ⟨Or.inl g.1, g.2⟩) (fun g => ⟨Or.inr g.1, g.2⟩)⟩
def joinC (c d : Con) : Con := leftOf (c.all ++ d.all)
def allF (c : Con) : List Mu := c.all.mergeSort fun a b => decide (muC a b ≤ 0)
theorem sorted_all (l : List Mu) : (l.mergeSort fun a b => decide (muC a b ≤ 0)).Pairwise fun a b => muC a b ≤ 0 := by
  refine (List.pairwise_mergeSort (le := fun a b => decide (muC a b ≤ 0)) ?_ ?_ l).imp fun h => of_decide_eq_true h
  · intro a b c h1 h2
    exact decide_eq_true (muO.le_le (of_decide_eq_true h1) (of_decide_eq_true h2))
  · intro a b
    have := muO.swap a b
    by_cases h : muC a b ≤ 0
    · simp [h]
    · have : muC b a ≤ 0 := by omega
      simp [this]
theorem Good.allOf {c : Con} {n : Nat} (h : Good c n) : AllOf c (allF c) := AllOf.of_perm h.reps (List.mergeSort_perm _ _) (sorted_all _)
theorem Good.all_eq {c : Con} {n : Nat} (h : Good c n) {l : List Mu} (hl : AllOf c l) : l = allF c := hl.unique h.allOf
theorem mem_allF {c : Con} {m : Mu} : m ∈ allF c ↔ m ∈ c.all := (List.mergeSort_perm _ _).mem_iff
theorem len_allF (c : Con) : (allF c).length = c.all.length := (List.mergeSort_perm _ _).length_eq
def IsC (c : Con) (v : Value) (w : World) : Prop := ∃ a b d, v = .agg #[a, b, d] ∧ Lies w a b d c
theorem IsC.below {c : Con} {v : Value} {w w' : World} (h : IsC c v w) (hb : Below w.heap.size w w') : IsC c v w' := by
  obtain ⟨a, b, d, e, h⟩ := h
  exact ⟨a, b, d, e, h.below hb⟩
theorem Lies.is {w : World} {a b d : Value} {c : Con} (h : Lies w a b d c) : IsC c (.agg #[a, b, d]) w := ⟨a, b, d, rfl, h⟩
theorem IsC.plain3 {c : Con} {v : Value} {w w' : World} (h : IsC c v w) (hp : Plain3 w w') : IsC c v w' := by
  obtain ⟨a, b, d, e, h⟩ := h
  exact ⟨a, b, d, e, h.plain3 hp⟩
theorem IsC.form {c : Con} {v : Value} {w : World} (h : IsC c v w) : ∃ o1 n1 k1 o2 n2 k2 o3 n3 k3, v = .agg #[.slice o1 n1 k1, .slice o2 n2 k2, .slice o3 n3 k3] ∧ Lies w (.slice o1 n1 k1) (.slice o2 n2 k2) (.slice o3 n3 k3) c := by
  obtain ⟨a, b, d, rfl, h⟩ := h
  obtain ⟨o1, n1, k1, rfl⟩ := h.cells.slice
  obtain ⟨o2, n2, k2, rfl⟩ := h.wipes.slice
  obtain ⟨o3, n3, k3, rfl⟩ := h.sibs.slice
  exact ⟨o1, n1, k1, o2, n2, k2, o3, n3, k3, rfl, h⟩
def RetC (c : Con) (w : World) (e : Ending) (w' : World) : Prop := ∃ v, e = .returned v ∧ IsC c v w' ∧ Below w.heap.size w w'
def RetR (l : List Mu) (w : World) (e : Ending) (w' : World) : Prop := ∃ v, e = .returned v ∧ Reads w' v l ∧ Below w.heap.size w w'
def RetB (q : Bool) (w : World) (e : Ending) (w' : World) : Prop := e = .returned (.bool q) ∧ Below w.heap.size w w'
section
variable {c c' : Con} {n n' : Nat} {v v' : Value} {w : World}
theorem c_of {l : List Mu} (hT : Tabs w) (hv : Reads w v l) (hn : l.length ≤ 10000) (hs : ∀ m ∈ l, Small m) : Calls Tryz.prog 10 #[v] w (RetC (leftOf l) w) := by
  obtain ⟨R, rfl, hv⟩ := hv
  refine (of_any v R w hT hv (by simpa using hn) (fun x hx => hs _ (List.mem_map.2 ⟨x, hx, rfl⟩))).mono ?_
  rintro e w' ⟨a, b, d, c, rfl, hl, hr, -, hb⟩
  rw [← leftOf_eq hr]
  exact ⟨_, rfl, hl.is, hb⟩
theorem c_refof {l : List Mu} (hT : Tabs w) (hv : Reads w v l) (hn : l.length ≤ 10000) (hs : ∀ m ∈ l, Small m) : Calls Tryz.prog 7 #[v] w (RetC (leftOf l) w) := by
  obtain ⟨R, rfl, hv⟩ := hv
  refine (refof_con v R w hT hv (fun x hx => hs _ (List.mem_map.2 ⟨x, hx, rfl⟩)) (by simpa using hn)).mono ?_
  rintro e w' ⟨a, b, d, c, rfl, hl, hr, -, hb⟩
  rw [← leftOf_eq hr]
  exact ⟨_, rfl, hl.is, hb⟩
theorem c_join (hT : Tabs w) (hv : IsC c v w) (h : Good c n) (hv' : IsC c' v' w) (h' : Good c' n') (hn : n + n' ≤ 90000) : Calls Tryz.prog 40 #[v, v'] w (RetC (joinC c c') w) := by
  obtain ⟨a, b, d, rfl, hl⟩ := hv
  obtain ⟨a', b', d', rfl, hl'⟩ := hv'
  refine (join_any a b d a' b' d' c c' _ _ n n' w hT hl h.reps h.okc hl' h'.reps h'.okc hn).mono ?_
  rintro e w' ⟨a, b, d, c2, rfl, hl, hr, -, hb⟩
  have : c2 = joinC c c' := leftOf_eq (hr.same fun m => by rw [fits_append, h.fits, h'.fits])
  rw [← this]
  exact ⟨_, rfl, hl.is, hb⟩
theorem c_same (q : Bool) (hq : q = true ↔ c = c') (hv : IsC c v w) (h : Good c n) (hv' : IsC c' v' w) (h' : Good c' n') (hn : n ≤ 100000) (hn' : n' ≤ 100000) : Calls Tryz.prog 39 #[v, v'] w (RetB q w) := by
  obtain ⟨a, b, d, rfl, hl⟩ := hv
  obtain ⟨a', b', d', rfl, hl'⟩ := hv'
  exact same_con a b d a' b' d' c c' _ _ n n' w q hq hl h.reps h.okc hl' h'.reps h'.okc hn hn'
theorem c_all (hv : IsC c v w) (h : Good c n) (hn : n ≤ 100000) : Calls Tryz.prog 76 #[v] w fun e w' => ∃ g cap R, e = .returned (.slice (some ⟨g, 0, none⟩) R.length cap) ∧ Copied w' (.slice (some ⟨g, 0, none⟩) R.length cap) R w.heap.size ∧ R.map (·.1) = allF c ∧ Below w.heap.size w w' := by
  obtain ⟨a, b, d, rfl, hl⟩ := hv
  refine (all_any a b d c n w hl h.okc hn).mono ?_
  rintro e w' ⟨g, cap, R, rfl, hc, hp, hs, hb⟩
  have e1 : c.all.length = R.length := by have := hp.length_eq; simpa using this.symm
  rw [e1] at hc ⊢
  exact ⟨g, cap, R, rfl, hc, h.all_eq (AllOf.of_perm h.reps hp hs), hb⟩
end
end Go.Proofs.YtpeoonnglnchnaaGreatDoor.Mut

namespace Go.Proofs.YtpeoonnglnchnaaGreatDoor.Mrk
open Go.RowKit Go.Proofs.YtpeoonnglnchnaaGreatDoor.Spare Go.Proofs.YtpeoonnglnchnaaGreatDoor.RegInv Go.Proofs.YtpeoonnglnchnaaGreatDoor.Mut
set_option linter.unusedSectionVars false
variable [Inhabited Lim]
def bytesM (m : Mu) : List Nat := textF m.key ++ restL m.table.toNat m.kind.toNat m.expiry.toNat m.at_.p.toNat m.at_.l.toNat m.at_.w.toNat m.fin m.val m.over
structure NumM (m : Mu) : Prop where
  t : 0 ≤ m.table ∧ m.table < 9223372036854775808
  k : 0 ≤ m.kind ∧ m.kind < 9223372036854775808
  e : 0 ≤ m.expiry ∧ m.expiry < 9223372036854775808
  at_ : NumS m.at_
  key : m.key.size ≤ 1000
  fin : m.fin.size ≤ 1000
  val : m.val.size ≤ 1000
  len : m.over.length ≤ 1000
  over : ∀ s ∈ m.over, NumS s
theorem num_st {s : Stp} (h : stR s = true) : NumS s := by
  unfold stR at h
  simp only [Bool.and_eq_true, decide_eq_true_eq] at h
  obtain ⟨⟨⟨⟨⟨⟨h1, h2⟩, h3⟩, h4⟩, h5⟩, h6⟩, -⟩ := h
  exact ⟨h1, h2, h3, by omega, by omega, by omega⟩
theorem num_over (t : Stp) : ∀ (l : List Stp) (p : Option Stp), overFrom t p l = true → ∀ s ∈ l, NumS s
  | [], _, _ => fun s hs => by simp at hs
  | x :: l, p, h => fun s hs => by
    unfold overFrom at h
    simp only [Bool.and_eq_true] at h
    rcases List.mem_cons.1 hs with rfl | hs
    · exact num_st h.1
    · exact num_over t l (some x) h.2.2.2 s hs
theorem num_right {m : Mu} (h : rightF m = true) : NumM m := by
  unfold rightF rightG at h
  simp only [Bool.and_eq_true, Bool.not_eq_true', Bool.or_eq_false_iff, Bool.and_eq_false_iff, decide_eq_true_eq, decide_eq_false_iff_not, Bool.not_eq_false'] at h
  obtain ⟨h1, h2, h3, ⟨e1, e2, -⟩, h4, h5, h6⟩ := h
  have k1 := keyF_size h2
  have k2 := valF_size h4.2
  unfold overF at h3
  simp only [Bool.and_eq_true, decide_eq_true_eq] at h3
  have k4 : m.fin.size ≤ 24 := by
    by_cases hk : m.kind = 3
    · rcases h5.2 with h | h
      · exact absurd hk h
      · exact keyF_size h.1
    · rcases h5.1 with h | h
      · exact absurd h hk
      · have := empty_size h; omega
  have k5 : (m.table = 1 ∨ m.table = 2) ∧ 1 ≤ m.kind ∧ m.kind ≤ 3 := by
    by_cases t1 : m.table = 1
    · rw [if_pos t1] at h6
      simp only [Bool.and_eq_true, decide_eq_true_eq] at h6
      exact ⟨Or.inl t1, h6.2.1, h6.2.2⟩
    · rw [if_neg t1] at h6
      by_cases t2 : m.table = 2
      · rw [if_pos t2] at h6
        simp only [Bool.or_eq_true, decide_eq_true_eq] at h6
        exact ⟨Or.inr t2, by omega, by omega⟩
      · rw [if_neg t2] at h6; cases h6
  exact ⟨by omega, by omega, by omega, num_st h1, by omega, by omega, by omega, by omega, num_over _ _ _ h3.1⟩
theorem strL_byte (s : ByteArray) : ∀ c ∈ strL s, c < 256 := by
  intro c hc
  unfold strL at hc
  obtain ⟨b, _, rfl⟩ := List.mem_map.1 hc
  exact b.toNat_lt
theorem bytesM_byte (m : Mu) : ∀ c ∈ bytesM m, c < 256 := by
  intro c hc
  unfold bytesM restL textF at hc
  simp only [List.mem_append, List.mem_flatMap] at hc
  rcases hc with (h | h) | h | h | (h | h) | (h | h) | h | h | h | h | h | ⟨s, _, h⟩
  all_goals first
    | exact putF_lt _ c h
    | exact strL_byte _ c h
    | (unfold stF at h
       simp only [List.mem_append] at h
       rcases h with h | h | h <;> exact putF_lt _ c h)
end Go.Proofs.YtpeoonnglnchnaaGreatDoor.Mrk

namespace Go.Proofs.YtpeoonnglnchnaaGreatDoor.Rd
open Go Go.Proofs.YtpeoonnglnchnaaGreatDoor.Mrk Go.Proofs.YtpeoonnglnchnaaGreatDoor.Mut
theorem fold_push:∀ (l:List UInt8) (acc:ByteArray),((l.map fun b=>b.toNat).map fun c:Nat=>(c:Int)).foldl (fun r n=>r.push (UInt8.ofNat n.toNat)) acc=⟨acc.data++l.toArray⟩
 | [],acc=>by simp
 | b::l,acc=>by
  rw [List.map_cons,List.map_cons,List.foldl_cons,fold_push l]
  have e:UInt8.ofNat ((b.toNat:Int)).toNat=b:=by simp
  rw [e]
  show (⟨(acc.data.push b)++l.toArray⟩:ByteArray)=_
  congr 1
  simp
theorem strOf_back (s:ByteArray):strOf (strL s)=s:=by
 unfold strOf strL
 rw [fold_push]
 obtain⟨⟨l⟩⟩:=s
 have e:ByteArray.empty.data=#[]:=rfl
 rw [e]
 congr 1
 simp
theorem text_back (pre post:List Nat) (s:ByteArray) (most:Int) (hs:(s.size:Int)≤most) (hz:s.size<4611686018427387904):textS (pre++(textF s++post)) most (pre.length,0)=(s,(pre.length+(textF s).length,0)):=by
 have h1:=num_back pre (strL s++post) s.size hz
 have e:pre++(putF s.size++(strL s++post))=pre++(textF s++post):=by unfold textF;simp
 rw [e] at h1
 obtain⟨B,hB⟩:∃ B,B=pre++(textF s++post):=⟨_,rfl⟩
 have hB2:B=(pre++putF s.size)++(strL s++post):=by rw [hB,←e];simp
 rw [←hB] at h1 ⊢
 have hl:(strL s).length=s.size:=strL_len s
 unfold textS
 rw [h1]
 show (if (0:Int)=0 then (if most<((s.size:Nat):Int) then (ByteArray.empty,((pre.length,(31:Int)):S)) else if B.length - (pre.length+(putF s.size).length)<s.size then (ByteArray.empty,(pre.length,(30:Int))) else (strOf ((B.drop (pre.length+(putF s.size).length)).take s.size),(pre.length+(putF s.size).length+s.size,(0:Int)))) else (ByteArray.empty,(pre.length,(0:Int))))=_
 have hbl:B.length=pre.length+(putF s.size).length+s.size+post.length:=by rw [hB2];simp [hl];omega
 rw [if_pos rfl,if_neg (by omega),if_neg (by omega)]
 have hd:(B.drop (pre.length+(putF s.size).length)).take s.size=strL s:=by
  rw [hB2,←List.length_append,List.drop_left,←hl,List.take_left]
 rw [hd,strOf_back]
 unfold textF
 rw [List.length_append,hl]
 simp
 omega
theorem get_back (pre post:List Nat) (s:Stp) (h:NumS s) (h1:s.p<4611686018427387904) (h2:s.l<4611686018427387904) (h3:s.w<4611686018427387904) :
  getS (pre++(stF s++post)) (pre.length,0)=((s.p.toNat,s.l.toNat,s.w.toNat),(pre.length+(stF s).length,0)):=by
 obtain⟨p0,l0,w0,-,-,-⟩:=h
 have e1:=num_back pre (putF s.l.toNat++(putF s.w.toNat++post)) s.p.toNat (by omega)
 have e2:=num_back (pre++putF s.p.toNat) (putF s.w.toNat++post) s.l.toNat (by omega)
 have e3:=num_back (pre++putF s.p.toNat++putF s.l.toNat) post s.w.toNat (by omega)
 have f1:pre++(putF s.p.toNat++(putF s.l.toNat++(putF s.w.toNat++post)))=pre++(stF s++post):=by unfold stF;simp
 have f2:(pre++putF s.p.toNat)++(putF s.l.toNat++(putF s.w.toNat++post))=pre++(stF s++post):=by unfold stF;simp
 have f3:(pre++putF s.p.toNat++putF s.l.toNat)++(putF s.w.toNat++post)=pre++(stF s++post):=by unfold stF;simp
 rw [f1] at e1
 rw [f2] at e2
 rw [f3] at e3
 rw [List.length_append] at e2
 rw [List.length_append,List.length_append] at e3
 unfold getS
 rw [e1,e2,e3]
 unfold stF
 simp
 omega
end Go.Proofs.YtpeoonnglnchnaaGreatDoor.Rd

namespace Go.Proofs.YtpeoonnglnchnaaGreatDoor.Rd
open Go Go.Proofs.YtpeoonnglnchnaaGreatDoor.Mrk Go.Proofs.YtpeoonnglnchnaaGreatDoor.Mut
theorem count_back (pre post:List Nat) (n:Nat) (most:Int) (hn:n<4611686018427387904) (hm:(n:Int)≤most):countS (pre++(putF n++post)) most (pre.length,0)=(n,(pre.length+(putF n).length,0)):=by
 unfold countS
 rw [num_back pre post n hn]
 rw [if_pos rfl,if_neg (by show ¬ most<(n:Int);omega)]
theorem stOf_back {s:Stp} (h:NumS s):stOf (s.p.toNat,s.l.toNat,s.w.toNat)=s:=by
 obtain⟨p0,l0,w0,-,-,-⟩:=h
 obtain⟨p,l,w⟩:=s
 unfold stOf
 simp only [Stp.mk.injEq]
 exact⟨Int.toNat_of_nonneg p0,Int.toNat_of_nonneg l0,Int.toNat_of_nonneg w0⟩
structure LowS (s:Stp):Prop where
 n:NumS s
 p:s.p<4611686018427387904
 l:s.l<4611686018427387904
 w:s.w<4611686018427387904
theorem overs_back:∀ (l:List Stp) (pre post:List Nat),(∀ s∈l,LowS s)→oversS (pre++(l.flatMap stF++post)) l.length (pre.length,0)=(l,(pre.length+(l.flatMap stF).length,0))
 | [],pre,post,_=>by simp [oversS]
 | s::l,pre,post,h=>by
  have hs:=h s (by simp)
  have h1:=get_back pre (l.flatMap stF++post) s hs.n hs.p hs.l hs.w
  have h2:=overs_back l (pre++stF s) post fun x hx=>h x (by simp [hx])
  have e1:pre++(stF s++(l.flatMap stF++post))=pre++((s::l).flatMap stF++post):=by simp
  have e2:(pre++stF s)++(l.flatMap stF++post)=pre++((s::l).flatMap stF++post):=by simp
  rw [e1] at h1
  rw [e2,List.length_append] at h2
  rw [List.length_cons,oversS,h1]
  show (stOf _::(oversS _ l.length (pre.length+(stF s).length,0)).1,(oversS _ l.length (pre.length+(stF s).length,0)).2)=_
  rw [h2,stOf_back hs.n]
  simp
  omega
end Go.Proofs.YtpeoonnglnchnaaGreatDoor.Rd

namespace Go.Proofs.YtpeoonnglnchnaaGreatDoor.Mrk
open Go.Lib (hid)
open Go.RowKit Go.Proofs.YtpeoonnglnchnaaGreatDoor.Spare Go.Proofs.YtpeoonnglnchnaaGreatDoor.RegInv Go.Proofs.YtpeoonnglnchnaaGreatDoor.Mut
set_option linter.unusedSectionVars false
variable [Inhabited Lim]
def bytesR (l:List Mu):List Nat:=putF l.length++l.flatMap bytesM
theorem put_ro (x:Ro) (wb w:World) (v:Value) (bs:List Nat) (hx:Over wb x) (hn:NumM x.1) (hbw:Below wb.heap.size wb w) (hv:OwnB w wb.heap.size v bs) (hbs:bs.length≤600000) :
  Calls Tryz.prog 116 #[v,vM x] w (OnPost wb.heap.size v (bs++bytesM x.1) w):=by
 obtain⟨⟨tb,kd,key,fin,val,ex,⟨p,l,h⟩,over⟩,ov⟩:=x
 obtain⟨⟨t0,t1⟩,⟨k0,k1⟩,⟨e0,e1⟩,⟨p0,l0,w0,p1,l1,w1⟩,s1,s2,s3,s4,s5⟩:=hn
 simp only [] at t0 t1 k0 k1 e0 e1 p0 l0 w0 p1 l1 w1 s1 s2 s3 s4 s5
 obtain⟨tb,rfl⟩:=Int.eq_ofNat_of_zero_le t0
 obtain⟨kd,rfl⟩:=Int.eq_ofNat_of_zero_le k0
 obtain⟨ex,rfl⟩:=Int.eq_ofNat_of_zero_le e0
 obtain⟨p,rfl⟩:=Int.eq_ofNat_of_zero_le p0
 obtain⟨l,rfl⟩:=Int.eq_ofNat_of_zero_le l0
 obtain⟨h,rfl⟩:=Int.eq_ofNat_of_zero_le w0
 exact mutput_onto tb kd ex p l h key fin val over ov wb v bs w (by omega) (by omega) (by omega) (by omega) (by omega) (by omega) s1 s2 s3 s4 s5 hx.lst hbw hv hbs
theorem all_any (bs:List Nat) (v rv:Value) (R:List Ro) (w:World) (hr:MRow w rv R) (hnum:∀ x∈R,NumM x.1) (hn:R.length≤500) (hsmall:(bs++bytesR (R.map (·.1))).length≤550000)
  (hput:Calls Tryz.prog 43 #[v,.int .i64 (R.length:Nat)] w fun e w'=>∃ v',e=.returned v'∧OwnB w' w.heap.size v' (bs++putF R.length)∧Below w.heap.size w w') :
  Calls Tryz.prog 85 #[v,rv] w fun e w'=>∃ v',e=.returned v'∧OwnB w' w.heap.size v' (bs++bytesR (R.map (·.1)))∧Below w.heap.size w w':=by
 obtain⟨ro,cap,rfl,-,-⟩:=hr.form
 obtain⟨n,hnr⟩:∃ k,k=R.length:=⟨_,rfl⟩
 rw [←hnr] at hr hn hput ⊢
 have HR:=hid hr
 have HN:=hid hnr
 have HNU:=hid hnum
 have HP:=hid hput
 obtain⟨Q,hQ⟩:∃ Q,Q=bs++bytesR (R.map (·.1)):=⟨_,rfl⟩
 rw [←hQ] at hsmall ⊢
 have HQ:=hid (show Q=(bs++putF n)++(R.map (·.1)).flatMap bytesM from by rw [hQ];unfold bytesR;rw [List.length_map,←hnr,List.append_assoc])
 clear hr hnr hnum hput hQ
 go_enter Tryz.func85,Tryz.ntmps85
 go_wp2_with fail
 refine HP.out.mono ?_
 rintro e w1 ⟨v1,rfl,ho1,hb1⟩
 have HO1:=hid ho1
 have HB1:=hid hb1
 clear ho1 hb1 HP
 go_wp2_with fail
 go_loopw [0,13] (fun ov iv wr=>∃ k:Nat,k≤n∧iv=.int .i64 k∧Hid (OwnB wr w.heap.size ov ((bs++putF n)++((R.take k).map (·.1)).flatMap bytesM))∧Hid (Below w.heap.size w wr)) (fun _ iv _=>n - (intOf iv).toNat)
 case atStart=>exact⟨0,by omega,rfl,hid (by simpa using HO1.out),HB1⟩
 case round=>
  obtain⟨k,hk,rfl,ho,hb⟩:=hrel
  by_cases hlt:k<n
  ·
   have hkr:k<R.length:=by have:=HN.out;omega
   obtain⟨x,hx⟩:∃ x,R[k]?=some x:=⟨_,List.getElem?_eq_getElem hkr⟩
   have hmr:MRow wr (.slice ro n cap) R:=HR.out.below hb.out
   obtain⟨xb,xoff,hao,hat⟩:=hmr.at_ hx
   cases hao
   have hxm:=List.mem_of_getElem? hx
   have hov0:=HR.out.over x hxm
   obtain⟨xo,xc,xe,-,-⟩:=Over.form hov0
   have HOV:=hid hov0
   have HNX:=hid (HNU.out x hxm)
   have HXE:=hid xe
   obtain⟨bk,hbk⟩:∃ b,b=(bs++putF n)++((R.take k).map (·.1)).flatMap bytesM:=⟨_,rfl⟩
   have HBK:=hid (show (bs++putF n)++((R.take (k+1)).map (·.1)).flatMap bytesM=bk++bytesM x.1 from by
    rw [hbk,List.take_add_one,hx];simp)
   have HBL:=hid (show bk.length≤600000 from by
    have h1:(((R.take k).map (·.1)).flatMap bytesM).length≤((R.map (·.1)).flatMap bytesM).length:=by
     conv=>rhs;rw [←List.take_append_drop k R]
     rw [List.map_append,List.flatMap_append,List.length_append]
     omega
    have h2:=congrArg List.length HQ.out
    rw [List.length_append] at h2
    rw [hbk,List.length_append]
    omega)
   rw [←hbk] at ho
   obtain⟨hbl0,a0,a1,a2,a3,a4,a5,a6,a7,a8,a9⟩:=hat
   rw [xe] at a9
   have j0:(0:Int)≤(k:Int):=by omega
   have j1:(k:Int)<(n:Int):=by omega
   clear hmr hx hxm hov0 xe hbk hkr
   go_upto_region 5 with fail
   obtain⟨W2,hW2⟩:∃ W,W=wr.alloc (.cells #[.int .i64 x.1.table,.int .i64 x.1.kind,.string x.1.key,.string x.1.fin,.string x.1.val,.int .i64 x.1.expiry,.int .i64 x.1.at_.p,.int .i64 x.1.at_.l,.int .i64 x.1.at_.w,.slice xo x.1.over.length xc] 42):=⟨_,rfl⟩
   rw [←hW2]
   obtain⟨nv,hnv⟩:∃ k,k=wr.heap.size:=⟨_,rfl⟩
   rw [←hnv]
   have hb2:Below wr.heap.size wr W2:=by rw [hW2];exact (Below.refl _ wr).alloc (Nat.le_refl _) _
   have hbx:W2.heap[nv]?=some (.cells #[.int .i64 x.1.table,.int .i64 x.1.kind,.string x.1.key,.string x.1.fin,.string x.1.val,.int .i64 x.1.expiry,.int .i64 x.1.at_.p,.int .i64 x.1.at_.l,.int .i64 x.1.at_.w,.slice xo x.1.over.length xc] 42 (0,0)):=by rw [hW2,hnv];exact heap_alloc_new wr _
   have HO2:=hid (ho.out.below hb2)
   have HB2:=hid (below_then hb.out (Nat.le_refl _) hb2)
   have m0:W2.cell? ⟨nv,0,none⟩=some (.int .i64 x.1.table):=by rw [cell_of_row W2 nv 0 _ _ (0,0) hbx];rfl
   have m1:W2.cell? ⟨nv,1,none⟩=some (.int .i64 x.1.kind):=by rw [cell_of_row W2 nv 1 _ _ (0,0) hbx];rfl
   have m2:W2.cell? ⟨nv,2,none⟩=some (.string x.1.key):=by rw [cell_of_row W2 nv 2 _ _ (0,0) hbx];rfl
   have m3:W2.cell? ⟨nv,3,none⟩=some (.string x.1.fin):=by rw [cell_of_row W2 nv 3 _ _ (0,0) hbx];rfl
   have m4:W2.cell? ⟨nv,4,none⟩=some (.string x.1.val):=by rw [cell_of_row W2 nv 4 _ _ (0,0) hbx];rfl
   have m5:W2.cell? ⟨nv,5,none⟩=some (.int .i64 x.1.expiry):=by rw [cell_of_row W2 nv 5 _ _ (0,0) hbx];rfl
   have m6:W2.cell? ⟨nv,6,none⟩=some (.int .i64 x.1.at_.p):=by rw [cell_of_row W2 nv 6 _ _ (0,0) hbx];rfl
   have m7:W2.cell? ⟨nv,7,none⟩=some (.int .i64 x.1.at_.l):=by rw [cell_of_row W2 nv 7 _ _ (0,0) hbx];rfl
   have m8:W2.cell? ⟨nv,8,none⟩=some (.int .i64 x.1.at_.w):=by rw [cell_of_row W2 nv 8 _ _ (0,0) hbx];rfl
   have m9:W2.cell? ⟨nv,9,none⟩=some (.slice xo x.1.over.length xc):=by rw [cell_of_row W2 nv 9 _ _ (0,0) hbx];rfl
   have HPU:=hid (put_ro x w W2 _ bk HOV.out HNX.out HB2.out HO2.out HBL.out)
   have hpu:=HPU.out
   unfold vM at hpu
   rw [HXE.out] at hpu
   have HPV:=hid hpu
   clear hpu HPU hW2 hb2 hbx hnv a0 a1 a2 a3 a4 a5 a6 a7 a8 a9 ho hb hbl0
   go_wp2_with fail
   refine HPV.out.mono ?_
   rintro e w3 ⟨v3,rfl,ho3,hg3,-⟩
   have HO3:=hid (show OwnB w3 w.heap.size v3 ((bs++putF n)++((R.take (k+1)).map (·.1)).flatMap bytesM) from by rw [HBK.out];exact ho3)
   have HB3:=hid (HB2.out.grown hg3 HB2.out.size (fun j hj=>(World.ownsRow.lt HO2.out j hj).1))
   clear ho3 hg3 m0 m1 m2 m3 m4 m5 m6 m7 m8 m9
   go_wp2_with fail
   go_roundw
   case rel=>exact⟨k+1,by omega,by go_num,HO3,HB3⟩
   case measure=>simp [intOf];omega
  ·
   obtain rfl:k=n:=by omega
   have HO9:=hid (show OwnB wr w.heap.size _ Q from by
    have h:=ho.out
    rw [List.take_of_length_le (by rw [HN.out];exact Nat.le_refl _),←HQ.out] at h
    exact h)
   clear ho
   go_wp2_with fail
   go_ret
   exact⟨_,rfl,HO9.out,hb.out⟩
end Go.Proofs.YtpeoonnglnchnaaGreatDoor.Mrk
