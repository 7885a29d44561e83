/- ConKnown. -/
import Derived.Test.YtpeoonnglnchnaaGreatDoorRegApp
import Derived.Test.YtpeoonnglnchnaaGreatDoorRefState
set_option linter.unusedSectionVars false
set_option linter.unusedSimpArgs false
set_option linter.unusedVariables false
set_option maxHeartbeats 16000000
set_option maxRecDepth 100000
/- The walks of state.Content's split, Above, Upto (layer 8). -/
namespace Go.Proofs.YtpeoonnglnchnaaGreatDoor.Mut
open Go.Lib (hid)
open RowKit Go.Sort YtpeoonnglnchnaaGreatDoor.Ord RegInv
variable [Inhabited Lim]
end Go.Proofs.YtpeoonnglnchnaaGreatDoor.Mut
/- Of any mutations there is what is left (layer 8), in plain Lean; so the reference's content is the program's. -/
namespace Go.Proofs.YtpeoonnglnchnaaGreatDoor.Mut
open Go.Lib (hid)
open YtpeoonnglnchnaaGreatDoor.Ord
variable [Inhabited Lim]
theorem parts_ex {d : Mu -> Mu -> Int} (c : Mu -> Int) : ∀ (l : List Mu), Rises d l -> (∀ x y, d x y < 0 -> 0 <= c x -> 0 <= c y) -> ∃ i, Parts c l i
  | [], _, _ => ⟨0, Nat.le_refl _, fun k x _ h => by simp at h, fun k x _ h => by simp at h⟩
  | y :: l, hr, hm => by
    unfold Rises at hr
    obtain ⟨h1, h2⟩ := List.pairwise_cons.1 hr
    by_cases hy : c y < 0
    . obtain ⟨i, p1, p2, p3⟩ := parts_ex (d := d) c l h2 hm
      refine ⟨i + 1, by simp; omega, fun k x hk hx => ?_, fun k x hk hx => ?_⟩
      . cases k with
        | zero => obtain rfl : y = x := by simpa using hx
                  exact hy
        | succ k => exact p2 k x (by omega) (by simpa using hx)
      . cases k with
        | zero => omega
        | succ k => exact p3 k x (by omega) (by simpa using hx)
    . refine ⟨0, Nat.zero_le _, fun k x hk _ => by omega, fun k x _ hx => ?_⟩
      cases k with
      | zero => obtain rfl : y = x := by simpa using hx
                omega
      | succ k =>
        have hx' : l[k]? = some x := by simpa using hx
        exact hm y x (h1 x (mg0 hx')) (by omega)
theorem sort_ex (l : List Mu) : ∃ k : List Mu, k.Perm l /\ k.Pairwise fun a b => muC a b <= 0 := by
  refine ⟨l.mergeSort (fun a b => decide (muC a b <= 0)), List.mergeSort_perm _ _, ?_⟩
  refine (List.pairwise_mergeSort (le := fun a b => decide (muC a b <= 0)) ?_ ?_ l).imp fun h => of_decide_eq_true h
  . intro a b c h1 h2
    exact dt0 (muO.le_le (of_decide_eq_true h1) (of_decide_eq_true h2))
  . intro a b
    have := muO.swap a b
    by_cases h : muC a b <= 0
    . simp [h]
    . have : muC b a <= 0 := by omega
      simp [this]
theorem Reps.one_more {S : Mu -> Prop} {c : Con} {n : Nat} {m : Mu} (h : Reps S c) (hO : Okc c n) (hm : rightF m = true) : ∃ c', Reps (fun x => S x \/ x = m) c' /\ Okc c' (n + 1) := by
  have hf := fit_of hm
  by_cases hs : m.table = 2
  . obtain ⟨i, hp⟩ := parts_ex (d := sibC) (fun x => sibC x m) c.sibs h.rs (fun x y h1 h2 => by have := sib_up m x y h1 h2; omega)
    cases hat : isAt (fun x => sibC x m) c.sibs i with
    | true => exact ⟨c, h.sib_keep hf hs hat, hO.more (by omega)⟩
    | false => exact ⟨_, h.sib_put hf hs hp hat, hO.sibs hm (fun x hx => mem_take_drop.1 hx) (len_put _ _ _)⟩
  . by_cases hk : m.kind = 3
    . cases hany : c.wipes.any (fun x => withinB x m) with
      | true => exact ⟨c, h.wipe_keep hf ⟨hs, hk⟩ hany, hO.more (by omega)⟩
      | false =>
        obtain ⟨l, hp, hl⟩ := sort_ex (c.wipes.filter (fun x => !withinB m x) ++ [m])
        refine ⟨_, h.wipe_put hf ⟨hs, hk⟩ (fun x hx => by
          cases e : withinB x m with
          | false => rfl
          | true => rw [List.any_eq_true.2 ⟨x, hx, e⟩] at hany; cases hany) hp hl, hO.of hm ?_ ?_⟩
        . intro x hx
          rcases Con.mem_all.1 hx with h1 | h1 | h1
          . exact Or.inl (Con.mem_all.2 (Or.inl (List.mem_filter.1 h1).1))
          . rcases List.mem_append.1 (hp.mem_iff.1 h1) with h2 | h2
            . exact Or.inl (Con.mem_all.2 (Or.inr (Or.inl (List.mem_filter.1 h2).1)))
            . exact Or.inr (List.mem_singleton.1 h2)
          . exact Or.inl (Con.mem_all.2 (Or.inr (Or.inr h1)))
        . have e1 := hp.length_eq
          have e2 := List.length_filter_le (fun x => !withinB m x) c.wipes
          have e3 := List.length_filter_le (fun x => !hitsB m x.key x.at_) c.cells
          rw [la0, List.length_singleton] at e1
          unfold Con.all
          simp only [la0]
          omega
    . have hc : isC m := ⟨hs, hk⟩
      by_cases hh : ∃ w ∈ c.wipes, hits w m.key m.at_
      . obtain ⟨w, hw, hh⟩ := hh
        exact ⟨c, h.cell_hit hf hc hw hh, hO.more (by omega)⟩
      . have hh' : ∀ w ∈ c.wipes, ¬ hits w m.key m.at_ := fun w hw e => hh ⟨w, hw, e⟩
        obtain ⟨i, hp⟩ := parts_ex (d := keyC) (fun x => cmpS x.key m.key) c.cells h.rc (fun x y h1 h2 => by have := key_up m x y h1 h2; omega)
        cases hat : isAt (fun x => cmpS x.key m.key) c.cells i with
        | false => exact ⟨_, h.cell_put hf hc hh' hp hat, hO.cells hm (fun x hx => mem_take_drop.1 hx) (len_put _ _ _)⟩
        | true =>
          obtain ⟨x, hx, e⟩ := isAt_some hat
          have e' := (Tot.str.zero _ _).1 e
          by_cases hl : muC x m < 0
          . refine ⟨_, h.cell_set hf hc hh' hx e' hl, hO.cells hm (fun y hy => ?_) (by simp)⟩
            exact List.mem_or_eq_of_mem_set hy
          . exact ⟨c, h.cell_keep hf hc hh' hx e' hl, hO.more (by omega)⟩
theorem fits_nil (m : Mu) : ¬ Fits [] m := fun h => by cases h.1
theorem reps_ex (l : List Mu) : ∃ c, Reps (Fits l) c /\ Okc c l.length := by
  suffices h : ∀ r : List Mu, ∃ c, Reps (Fits r.reverse) c /\ Okc c r.reverse.length by
    have := h l.reverse
    rwa [List.reverse_reverse] at this
  intro r
  induction r with
  | nil => exact ⟨⟨[], [], []⟩, Reps.none.same fun m => ⟨fun h => h.elim, fun h => (fits_nil m h).elim⟩, ⟨fun m hm => absurd hm (by simp [Con.all]), Nat.le_refl _⟩⟩
  | cons x r ih =>
    obtain ⟨c, h1, h2⟩ := ih
    rw [List.reverse_cons]
    have hlen : (r.reverse ++ [x]).length = r.reverse.length + 1 := by simp
    rw [hlen]
    cases hx : rightF x with
    | true =>
      obtain ⟨c', h3, h4⟩ := h1.one_more h2 hx
      refine ⟨c', h3.same fun y => ?_, h4⟩
      rw [fits_snoc]
      exact ⟨fun h => h.imp id fun e => ⟨e, hx⟩, fun h => h.imp id fun e => e.1⟩
    | false =>
      refine ⟨c, h1.same fun y => ?_, h2.more (by omega)⟩
      rw [fits_snoc]
      exact ⟨Or.inl, fun h => h.elim id fun e => by rw [hx] at e; exact absurd e.2 (by decide)⟩
end Go.Proofs.YtpeoonnglnchnaaGreatDoor.Mut
/- The walks of cenotaphref08.some, All, Split, Join, Of (layer 8). PRINTED by wip/genrefsplit2.py. -/
namespace Go.Proofs.YtpeoonnglnchnaaGreatDoor.Mut
open Go.Lib (hid)
open RowKit Go.Sort YtpeoonnglnchnaaGreatDoor.Ord RegInv
variable [Inhabited Lim]
def insAll (acc : List Ro) (R : List Ro) : List Ro := R.foldl (fun a x => insRo x false a) acc
def allRo (A B D : List Ro) : List Ro := insAll (insAll (insAll [] A) B) D
theorem insAll_snoc (acc R : List Ro) (x : Ro) : insAll acc (R ++ [x]) = insRo x false (insAll acc R) := by simp [insAll]
theorem insAll_mem (acc R : List Ro) : ∀ y ∈ insAll acc R, y ∈ acc \/ y ∈ R := by
  induction R generalizing acc with
  | nil => intro y hy; exact Or.inl hy
  | cons x R ih =>
    intro y hy
    rcases ih _ y hy with h | h
    . rcases insRo_mem _ _ _ y h with h | rfl
      . exact Or.inl h
      . exact Or.inr (by simp)
    . exact Or.inr (List.mem_cons_of_mem _ h)
theorem insAll_spec : ∀ (R acc : List Ro), Rises muC (acc.map (·.1)) -> Rises muC ((insAll acc R).map (·.1)) /\ (∀ m, m ∈ (insAll acc R).map (·.1) ↔ m ∈ acc.map (·.1) \/ m ∈ R.map (·.1)) /\ (insAll acc R).length <= acc.length + R.length := by
  intro R
  induction R with
  | nil => intro acc h; exact ⟨h, fun m => by simp [insAll], by simp [insAll]⟩
  | cons x R ih =>
    intro acc h
    have hm := insRo_map x acc false
    have hs := insF_rises x.1 h
    obtain ⟨i1, i2, i3⟩ := ih (insRo x false acc) (by rw [hm]; exact hs.1)
    refine ⟨i1, fun m => (i2 m).trans ?_, ?_⟩
    . rw [hm, List.map_cons, List.mem_cons]
      refine (or_congr (hs.2 m) Iff.rfl).trans ?_
      constructor
      . rintro ((h | h) | h)
        . exact Or.inl h
        . exact Or.inr (Or.inl h)
        . exact Or.inr (Or.inr h)
      . rintro (h | h | h)
        . exact Or.inl (Or.inl h)
        . exact Or.inl (Or.inr h)
        . exact Or.inr h
    . have h4 : (insRo x false acc).length <= acc.length + 1 := by
        have := insF_len (acc.map (·.1)) x.1
        unfold insF at this
        rw [<- hm, lm0, lm0] at this
        exact this
      have h5 : (insAll acc (x :: R)).length <= (insRo x false acc).length + R.length := i3
      simp only [List.length_cons]; omega
theorem allRo_spec (A B D : List Ro) : Rises muC ((allRo A B D).map (·.1)) /\ (∀ m, m ∈ (allRo A B D).map (·.1) ↔ m ∈ A.map (·.1) \/ m ∈ B.map (·.1) \/ m ∈ D.map (·.1)) /\ (allRo A B D).length <= A.length + B.length + D.length := by
  obtain ⟨a1, a2, a3⟩ := insAll_spec A [] List.Pairwise.nil
  obtain ⟨b1, b2, b3⟩ := insAll_spec B _ a1
  obtain ⟨d1, d2, d3⟩ := insAll_spec D _ b1
  refine ⟨d1, fun m => (d2 m).trans ?_, ?_⟩
  . rw [b2, a2]
    simp [or_assoc]
  . have : ([] : List Ro).length = 0 := rfl
    unfold allRo
    omega
theorem insAll_len (acc R : List Ro) : (insAll acc R).length <= acc.length + R.length := by
  induction R generalizing acc with
  | nil => simp [insAll]
  | cons x R ih =>
    have h3 := ih (insRo x false acc)
    have h4 : (insRo x false acc).length <= acc.length + 1 := by
      have h := insF_len (acc.map (·.1)) x.1
      unfold insF at h
      rw [<- insRo_map x acc false, lm0, lm0] at h
      exact h
    have h5 : (insAll acc (x :: R)).length <= (insRo x false acc).length + R.length := h3
    simp only [List.length_cons]; omega
theorem refall_any (a b d : Value) (A B D : List Ro) (w : World) (hA : MRow w a A) (hB : MRow w b B) (hD : MRow w d D) (hs : ∀ x, x ∈ A \/ x ∈ B \/ x ∈ D -> Small x.1) (hn : A.length + B.length + D.length <= 90000) :
    Calls Tryz.prog 21 #[.agg #[a, b, d]] w (RowP w (allRo A B D)) := by
  obtain ⟨o1, k1, rfl, -, -⟩ := hA.form
  obtain ⟨o2, k2, rfl, -, -⟩ := hB.form
  obtain ⟨o3, k3, rfl, -, -⟩ := hD.form
  obtain ⟨n1, h1⟩ : ∃ n, n = A.length := ⟨_, rfl⟩
  obtain ⟨n2, h2⟩ : ∃ n, n = B.length := ⟨_, rfl⟩
  obtain ⟨n3, h3⟩ : ∃ n, n = D.length := ⟨_, rfl⟩
  rw [<- h1] at hA ⊢
  rw [<- h2] at hB ⊢
  rw [<- h3] at hD ⊢
  have hl1 : n1 <= 90000 := by omega
  have hl2 : n2 <= 90000 := by omega
  have hl3 : n3 <= 90000 := by omega
  have HLN := hid (show ([] : List Ro).length = 0 /\ A.length + B.length + D.length <= 90000 /\ (insAll [] A).length <= A.length /\ (insAll (insAll [] A) B).length <= A.length + B.length from ⟨rfl, hn, by have h := insAll_len [] A; simpa using h, by have h := insAll_len [] A; have h2 := insAll_len (insAll [] A) B; simp only [List.length_nil] at h; omega⟩)
  have HN := hid (And.intro h1 (And.intro h2 h3))
  have HA := hid hA
  have HB := hid hB
  have HD := hid hD
  have HSM := hid hs
  have HSA := hid (fun x (h : x ∈ A) => hs x (Or.inl h))
  have HSB := hid (fun x (h : x ∈ B) => hs x (Or.inr (Or.inl h)))
  have HSD := hid (fun x (h : x ∈ D) => hs x (Or.inr (Or.inr h)))
  obtain ⟨W0, hW0⟩ : ∃ W0, W0 = w.alloc (.cells #[.slice o1 n1 k1, .slice o2 n2 k2, .slice o3 n3 k3] 25) := ⟨_, rfl⟩
  have hb0 : Below w.heap.size w W0 := by rw [hW0]; exact (Below.refl _ w).alloc lr _
  have hP : C3 W0 w.heap.size (.slice o1 n1 k1) (.slice o2 n2 k2) (.slice o3 n3 k3) := by rw [hW0]; exact C3.newR w _ _ _
  obtain ⟨c0, hc0⟩ : ∃ c0, c0 = w.heap.size := ⟨_, rfl⟩
  rw [<- hc0] at hP
  have HP := hid hP
  have HB0 := hid hb0
  have HW := hid hW0
  have HC0 := hid hc0
  clear hA hB hD hs hn h1 h2 h3 hb0 hP hW0
  go_enter Tryz.func21, Tryz.ntmps21
  go_upto_region 1 with fail
  rw [<- HW.out, <- hc0]
  clear HW hc0
  have HQ0 := hid (MRow.nil W0)
  have HB0' := HB0
  have HBz := hid (Below.refl W0.heap.size W0)
  go_wp2_with fail
  go_loopw [3, 4] (fun ov iv wr => ∃ (k : Nat) (acc : List Ro), k <= n1 /\ iv = .int .i64 k /\ Hid (acc = insAll [] (A.take k) /\ MRow wr ov acc) /\ Hid (Below W0.heap.size W0 wr)) (fun _ iv _ => n1 - (intOf iv).toNat)
  case atStart => exact ⟨0, _, by omega, rfl, hid ⟨rfl, HQ0.out⟩, HBz⟩
  case round =>
    obtain ⟨k, acc, hk, rfl, hacc, hb⟩ := hrel
    have HP1 := hid (HP.out.below hb.out)
    obtain ⟨hcl, p0, p1, p2, -⟩ := HP1.out
    by_cases hlt : k < n1
    . have hkr : k < A.length := by have := HN.out; omega
      obtain ⟨x, hx⟩ : ∃ x, A[k]? = some x := ⟨_, ge0 hkr⟩
      have hxm := mg0 hx
      have hxo := (HA.out.below (below_then HB0.out lr hb.out)).over x hxm
      obtain ⟨xb, xoff, hao, hat⟩ := (HA.out.below (below_then HB0.out lr hb.out)).at_ hx
      cases hao
      have htk : A.take (k + 1) = A.take k ++ [x] := by rw [List.take_add_one, hx]; rfl
      have hsn := insAll_snoc [] (A.take k) x
      rw [<- htk, <- hacc.out.1] at hsn
      have hacm : ∀ y ∈ acc, y ∈ [] \/ y ∈ A := fun y hy => by
        rw [hacc.out.1] at hy
        exact (insAll_mem _ _ y hy).imp id List.mem_of_mem_take
      have hal : acc.length <= 100000 := by
        rw [hacc.out.1]
        have h1 := insAll_len [] (A.take k)
        have h2 := List.length_take_le k A
        have := HLN.out
        omega
      have HIn := hid (refins_any _ acc x wr hacc.out.2 hxo (HSA.out x hxm).over (fun y hy => (HSM.out y ((hacm y hy).elim (fun h => by cases h) (fun h => Or.inl h))).over) hal)
      obtain ⟨oo, oc, rfl, -, -⟩ := hacc.out.2.form
      have HSN := hid hsn
      obtain ⟨xo, xc, ex, -, -⟩ := Over.form hxo
      clear hsn hx hxm hxo htk hacm hal
      obtain ⟨⟨at1, ak1, akey1, afin1, aval1, aex1, ⟨ap1, al1, aw1⟩, aov1⟩, av1⟩ := x
      simp only [] at ex
      obtain ⟨xn, hxn⟩ : ∃ k, k = aov1.length := ⟨_, rfl⟩
      rw [<- hxn] at ex
      subst ex
      clear hxn
      unfold vM at HIn
      simp only [] at HIn
      obtain ⟨hbl, a0, a1, a2, a3, a4, a5, a6, a7, a8, a9⟩ := hat
      simp only [] at a0 a1 a2 a3 a4 a5 a6 a7 a8 a9
      have j0 : (0 : Int) <= (k : Int) := by omega
      have j1 : (k : Int) < (n1 : Int) := by omega
      go_wp2_with fail
      refine HIn.out.mono ?_
      rintro e w2 ⟨v2, rfl, hr2, hb2⟩
      have HR2 := hid hr2
      have HB2 := hid (below_then hb.out lr hb2)
      clear hr2 hb2 a0 a1 a2 a3 a4 a5 a6 a7 a8 a9 hbl p0 p1 p2
      go_wp2_with fail
      go_roundw
      case rel => exact ⟨k + 1, _, by omega, by go_num, hid ⟨HSN.out.symm, HR2.out⟩, HB2⟩
      case measure => simp [intOf]; omega
    . obtain rfl : k = n1 := by omega
      have HQ1 := hid (show MRow wr u3 (insAll [] A) by
        have h := hacc.out.1
        rw [List.take_of_length_le (by have := HN.out; omega)] at h
        rw [<- h]; exact hacc.out.2)
      obtain ⟨w1, hw1⟩ : ∃ w1, w1 = wr := ⟨_, rfl⟩
      rw [<- hw1] at HQ1 hb p0 p1 p2 hcl ⊢
      have HB1 := hb
      clear hw1 hacc hlt HP1
      go_wp2_with fail
      go_loopw [3, 5] (fun ov iv wr => ∃ (k : Nat) (acc : List Ro), k <= n2 /\ iv = .int .i64 k /\ Hid (acc = insAll (insAll [] A) (B.take k) /\ MRow wr ov acc) /\ Hid (Below W0.heap.size W0 wr)) (fun _ iv _ => n2 - (intOf iv).toNat)
      case atStart => exact ⟨0, _, by omega, rfl, hid ⟨rfl, HQ1.out⟩, HB1⟩
      case round =>
        obtain ⟨k, acc, hk, rfl, hacc, hb⟩ := hrel
        have HP1 := hid (HP.out.below hb.out)
        obtain ⟨hcl, p0, p1, p2, -⟩ := HP1.out
        by_cases hlt : k < n2
        . have hkr : k < B.length := by have := HN.out; omega
          obtain ⟨x, hx⟩ : ∃ x, B[k]? = some x := ⟨_, ge0 hkr⟩
          have hxm := mg0 hx
          have hxo := (HB.out.below (below_then HB0.out lr hb.out)).over x hxm
          obtain ⟨xb, xoff, hao, hat⟩ := (HB.out.below (below_then HB0.out lr hb.out)).at_ hx
          cases hao
          have htk : B.take (k + 1) = B.take k ++ [x] := by rw [List.take_add_one, hx]; rfl
          have hsn := insAll_snoc (insAll [] A) (B.take k) x
          rw [<- htk, <- hacc.out.1] at hsn
          have hacm : ∀ y ∈ acc, y ∈ (insAll [] A) \/ y ∈ B := fun y hy => by
            rw [hacc.out.1] at hy
            exact (insAll_mem _ _ y hy).imp id List.mem_of_mem_take
          have hal : acc.length <= 100000 := by
            rw [hacc.out.1]
            have h1 := insAll_len (insAll [] A) (B.take k)
            have h2 := List.length_take_le k B
            have := HLN.out
            omega
          have HIn := hid (refins_any _ acc x wr hacc.out.2 hxo (HSB.out x hxm).over (fun y hy => (HSM.out y ((hacm y hy).elim (fun h => (insAll_mem _ _ _ h).elim (fun h => by cases h) (fun h => Or.inl h)) (fun h => Or.inr (Or.inl h)))).over) hal)
          obtain ⟨oo, oc, rfl, -, -⟩ := hacc.out.2.form
          have HSN := hid hsn
          obtain ⟨xo, xc, ex, -, -⟩ := Over.form hxo
          clear hsn hx hxm hxo htk hacm hal
          obtain ⟨⟨at1, ak1, akey1, afin1, aval1, aex1, ⟨ap1, al1, aw1⟩, aov1⟩, av1⟩ := x
          simp only [] at ex
          obtain ⟨xn, hxn⟩ : ∃ k, k = aov1.length := ⟨_, rfl⟩
          rw [<- hxn] at ex
          subst ex
          clear hxn
          unfold vM at HIn
          simp only [] at HIn
          obtain ⟨hbl, a0, a1, a2, a3, a4, a5, a6, a7, a8, a9⟩ := hat
          simp only [] at a0 a1 a2 a3 a4 a5 a6 a7 a8 a9
          have j0 : (0 : Int) <= (k : Int) := by omega
          have j1 : (k : Int) < (n2 : Int) := by omega
          go_wp2_with fail
          refine HIn.out.mono ?_
          rintro e w2 ⟨v2, rfl, hr2, hb2⟩
          have HR2 := hid hr2
          have HB2 := hid (below_then hb.out lr hb2)
          clear hr2 hb2 a0 a1 a2 a3 a4 a5 a6 a7 a8 a9 hbl p0 p1 p2
          go_wp2_with fail
          go_roundw
          case rel => exact ⟨k + 1, _, by omega, by go_num, hid ⟨HSN.out.symm, HR2.out⟩, HB2⟩
          case measure => simp [intOf]; omega
        . obtain rfl : k = n2 := by omega
          have HQ2 := hid (show MRow wr u3 (insAll (insAll [] A) B) by
            have h := hacc.out.1
            rw [List.take_of_length_le (by have := HN.out; omega)] at h
            rw [<- h]; exact hacc.out.2)
          obtain ⟨w2, hw2⟩ : ∃ w1, w1 = wr := ⟨_, rfl⟩
          rw [<- hw2] at HQ2 hb p0 p1 p2 hcl ⊢
          have HB2 := hb
          clear hw2 hacc hlt HP1
          go_wp2_with fail
          go_loopw [3, 6] (fun ov iv wr => ∃ (k : Nat) (acc : List Ro), k <= n3 /\ iv = .int .i64 k /\ Hid (acc = insAll (insAll (insAll [] A) B) (D.take k) /\ MRow wr ov acc) /\ Hid (Below W0.heap.size W0 wr)) (fun _ iv _ => n3 - (intOf iv).toNat)
          case atStart => exact ⟨0, _, by omega, rfl, hid ⟨rfl, HQ2.out⟩, HB2⟩
          case round =>
            obtain ⟨k, acc, hk, rfl, hacc, hb⟩ := hrel
            have HP1 := hid (HP.out.below hb.out)
            obtain ⟨hcl, p0, p1, p2, -⟩ := HP1.out
            by_cases hlt : k < n3
            . have hkr : k < D.length := by have := HN.out; omega
              obtain ⟨x, hx⟩ : ∃ x, D[k]? = some x := ⟨_, ge0 hkr⟩
              have hxm := mg0 hx
              have hxo := (HD.out.below (below_then HB0.out lr hb.out)).over x hxm
              obtain ⟨xb, xoff, hao, hat⟩ := (HD.out.below (below_then HB0.out lr hb.out)).at_ hx
              cases hao
              have htk : D.take (k + 1) = D.take k ++ [x] := by rw [List.take_add_one, hx]; rfl
              have hsn := insAll_snoc (insAll (insAll [] A) B) (D.take k) x
              rw [<- htk, <- hacc.out.1] at hsn
              have hacm : ∀ y ∈ acc, y ∈ (insAll (insAll [] A) B) \/ y ∈ D := fun y hy => by
                rw [hacc.out.1] at hy
                exact (insAll_mem _ _ y hy).imp id List.mem_of_mem_take
              have hal : acc.length <= 100000 := by
                rw [hacc.out.1]
                have h1 := insAll_len (insAll (insAll [] A) B) (D.take k)
                have h2 := List.length_take_le k D
                have := HLN.out
                omega
              have HIn := hid (refins_any _ acc x wr hacc.out.2 hxo (HSD.out x hxm).over (fun y hy => (HSM.out y ((hacm y hy).elim (fun h => (insAll_mem _ _ _ h).elim (fun h => (insAll_mem _ _ _ h).elim (fun h => by cases h) (fun h => Or.inl h)) (fun h => Or.inr (Or.inl h))) (fun h => Or.inr (Or.inr h)))).over) hal)
              obtain ⟨oo, oc, rfl, -, -⟩ := hacc.out.2.form
              have HSN := hid hsn
              obtain ⟨xo, xc, ex, -, -⟩ := Over.form hxo
              clear hsn hx hxm hxo htk hacm hal
              obtain ⟨⟨at1, ak1, akey1, afin1, aval1, aex1, ⟨ap1, al1, aw1⟩, aov1⟩, av1⟩ := x
              simp only [] at ex
              obtain ⟨xn, hxn⟩ : ∃ k, k = aov1.length := ⟨_, rfl⟩
              rw [<- hxn] at ex
              subst ex
              clear hxn
              unfold vM at HIn
              simp only [] at HIn
              obtain ⟨hbl, a0, a1, a2, a3, a4, a5, a6, a7, a8, a9⟩ := hat
              simp only [] at a0 a1 a2 a3 a4 a5 a6 a7 a8 a9
              have j0 : (0 : Int) <= (k : Int) := by omega
              have j1 : (k : Int) < (n3 : Int) := by omega
              go_wp2_with fail
              refine HIn.out.mono ?_
              rintro e w2 ⟨v2, rfl, hr2, hb2⟩
              have HR2 := hid hr2
              have HB2 := hid (below_then hb.out lr hb2)
              clear hr2 hb2 a0 a1 a2 a3 a4 a5 a6 a7 a8 a9 hbl p0 p1 p2
              go_wp2_with fail
              go_roundw
              case rel => exact ⟨k + 1, _, by omega, by go_num, hid ⟨HSN.out.symm, HR2.out⟩, HB2⟩
              case measure => simp [intOf]; omega
            . obtain rfl : k = n3 := by omega
              have HQ3 := hid (show MRow wr u3 (insAll (insAll (insAll [] A) B) D) by
                have h := hacc.out.1
                rw [List.take_of_length_le (by have := HN.out; omega)] at h
                rw [<- h]; exact hacc.out.2)
              obtain ⟨w3, hw3⟩ : ∃ w1, w1 = wr := ⟨_, rfl⟩
              rw [<- hw3] at HQ3 hb p0 p1 p2 hcl ⊢
              have HB3 := hb
              clear hw3 hacc hlt HP1
              go_wp2_with fail
              go_ret
              exact ⟨_, rfl, HQ3.out, below_then HB0.out lr HB3.out⟩
theorem refof_con (v : Value) (R : List Ro) (w : World) (hT : Tabs w) (hv : MRow w v R) (hs : ∀ x ∈ R, Small x.1) (hn : R.length <= 10000) :
    Calls Tryz.prog 7 #[v] w (ConP w (Fits (R.map (·.1))) R.length) := by
  refine (refof_any v R w hT hv hs hn).mono ?_
  rintro e w' ⟨a, b, d, c, rfl, hl, hsy, -, hb⟩
  obtain ⟨c0, h1, h2⟩ := reps_ex (R.map (·.1))
  obtain rfl : c0 = c := Says.eq h1 hsy
  rw [lm0] at h2
  exact ⟨a, b, d, c0, rfl, hl, h1, h2, hb⟩
end Go.Proofs.YtpeoonnglnchnaaGreatDoor.Mut
/- Contents as values (layer 8): what is left of a row of mutations is a function of it; each call of the program's and of the reference's hands back a content that is known ahead. -/
namespace Go.Proofs.YtpeoonnglnchnaaGreatDoor.Mut
open Go.Lib (hid)
open RowKit Go.Sort YtpeoonnglnchnaaGreatDoor.Ord RegInv
variable [Inhabited Lim]
def leftOf (l : List Mu) : Con :=
  ⟨(cellsRo (setRo (l.map fun m => ((m, .slice none 0 0) : Ro)))).map (·.1), (wipesRo (setRo (l.map fun m => ((m, .slice none 0 0) : Ro)))).map (·.1), (sibsRo (setRo (l.map fun m => ((m, .slice none 0 0) : Ro)))).map (·.1)⟩
theorem leftOf_eq {l : List Mu} {c : Con} (h : Reps (Fits l) c) : c = leftOf l := by
  have g := fits_says (l.map fun m => ((m, .slice none 0 0) : Ro))
  have e : (l.map fun m => ((m, .slice none 0 0) : Ro)).map (·.1) = l := by
    rw [List.map_map]
    exact List.map_id l
  rw [e] at g
  exact Says.eq h g
theorem leftOf_both (l : List Mu) : Reps (Fits l) (leftOf l) /\ Okc (leftOf l) l.length := by
  obtain ⟨c, h, g⟩ := reps_ex l
  rw [<- leftOf_eq h]
  exact ⟨h, g⟩
structure Good (c : Con) (n : Nat) : Prop where
  reps : Reps (fun m => m ∈ c.all) c
  okc : Okc c n
theorem Good.more {c : Con} {n k : Nat} (h : Good c n) (hk : n <= k) : Good c k := ⟨h.reps, h.okc.more hk⟩
theorem leftOf_good (l : List Mu) : Good (leftOf l) l.length := ⟨(leftOf_both l).1.self, (leftOf_both l).2⟩
theorem Good.fits {c : Con} {n : Nat} (h : Good c n) (m : Mu) : Fits c.all m ↔ m ∈ c.all := ⟨fun g => g.1, fun g => ⟨g, h.okc.right m g⟩⟩
theorem Good.left {c : Con} {n : Nat} (h : Good c n) : leftOf c.all = c := (leftOf_eq (h.reps.same fun m => (h.fits m).symm)).symm
theorem filter_all (c : Con) (p : Mu -> Bool) : (c.filter p).all = c.all.filter p := by
  unfold Con.all Con.filter
  simp only [List.filter_append]
theorem Good.filter {c : Con} {n : Nat} (h : Good c n) (p : Mu -> Bool) : Good (c.filter p) n :=
  ⟨h.reps.filter p, ⟨fun m hm => h.okc.right m (Con.mem_filter.1 hm).1, by rw [filter_all]; exact Nat.le_trans (List.length_filter_le _ _) h.okc.len⟩⟩
theorem leftOf_congr {l k : List Mu} (h : ∀ m, Fits l m ↔ Fits k m) : leftOf l = leftOf k := leftOf_eq ((leftOf_both l).1.same h)
theorem fits_append {l k : List Mu} (m : Mu) : Fits (l ++ k) m ↔ Fits l m \/ Fits k m := by
  unfold Fits
  rw [List.mem_append]
  exact ⟨fun h => h.1.elim (fun g => Or.inl ⟨g, h.2⟩) (fun g => Or.inr ⟨g, h.2⟩), fun h => h.elim (fun g => ⟨Or.inl g.1, g.2⟩) (fun g => ⟨Or.inr g.1, g.2⟩)⟩
def joinC (c d : Con) : Con := leftOf (c.all ++ d.all)
def allF (c : Con) : List Mu := c.all.mergeSort fun a b => decide (muC a b <= 0)
theorem sorted_all (l : List Mu) : (l.mergeSort fun a b => decide (muC a b <= 0)).Pairwise fun a b => muC a b <= 0 := by
  refine (List.pairwise_mergeSort (le := fun a b => decide (muC a b <= 0)) ?_ ?_ l).imp fun h => of_decide_eq_true h
  . intro a b c h1 h2
    exact dt0 (muO.le_le (of_decide_eq_true h1) (of_decide_eq_true h2))
  . intro a b
    have := muO.swap a b
    by_cases h : muC a b <= 0
    . simp [h]
    . have : muC b a <= 0 := by omega
      simp [this]
theorem Good.allOf {c : Con} {n : Nat} (h : Good c n) : AllOf c (allF c) := AllOf.of_perm h.reps (List.mergeSort_perm _ _) (sorted_all _)
theorem Good.all_eq {c : Con} {n : Nat} (h : Good c n) {l : List Mu} (hl : AllOf c l) : l = allF c := hl.unique h.allOf
theorem mem_allF {c : Con} {m : Mu} : m ∈ allF c ↔ m ∈ c.all := (List.mergeSort_perm _ _).mem_iff
theorem len_allF (c : Con) : (allF c).length = c.all.length := (List.mergeSort_perm _ _).length_eq
def IsC (c : Con) (v : Value) (w : World) : Prop := ∃ a b d, v = .agg #[a, b, d] /\ Lies w a b d c
theorem IsC.below {c : Con} {v : Value} {w w' : World} (h : IsC c v w) (hb : Below w.heap.size w w') : IsC c v w' := by
  obtain ⟨a, b, d, e, h⟩ := h
  exact ⟨a, b, d, e, h.below hb⟩
theorem Lies.is {w : World} {a b d : Value} {c : Con} (h : Lies w a b d c) : IsC c (.agg #[a, b, d]) w := ⟨a, b, d, rfl, h⟩
theorem IsC.plain3 {c : Con} {v : Value} {w w' : World} (h : IsC c v w) (hp : Plain3 w w') : IsC c v w' := by
  obtain ⟨a, b, d, e, h⟩ := h
  exact ⟨a, b, d, e, h.plain3 hp⟩
theorem IsC.form {c : Con} {v : Value} {w : World} (h : IsC c v w) : ∃ o1 n1 k1 o2 n2 k2 o3 n3 k3, v = .agg #[.slice o1 n1 k1, .slice o2 n2 k2, .slice o3 n3 k3] /\ Lies w (.slice o1 n1 k1) (.slice o2 n2 k2) (.slice o3 n3 k3) c := by
  obtain ⟨a, b, d, rfl, h⟩ := h
  obtain ⟨o1, n1, k1, rfl⟩ := h.cells.slice
  obtain ⟨o2, n2, k2, rfl⟩ := h.wipes.slice
  obtain ⟨o3, n3, k3, rfl⟩ := h.sibs.slice
  exact ⟨o1, n1, k1, o2, n2, k2, o3, n3, k3, rfl, h⟩
def RetC (c : Con) (w : World) (e : Ending) (w' : World) : Prop := ∃ v, e = .returned v /\ IsC c v w' /\ Below w.heap.size w w'
def RetR (l : List Mu) (w : World) (e : Ending) (w' : World) : Prop := ∃ v, e = .returned v /\ Reads w' v l /\ Below w.heap.size w w'
def RetB (q : Bool) (w : World) (e : Ending) (w' : World) : Prop := e = .returned (.bool q) /\ Below w.heap.size w w'
section
variable {c c' : Con} {n n' : Nat} {v v' : Value} {w : World}
theorem c_of {l : List Mu} (hT : Tabs w) (hv : Reads w v l) (hn : l.length <= 10000) (hs : ∀ m ∈ l, Small m) : Calls Tryz.prog 10 #[v] w (RetC (leftOf l) w) := by
  obtain ⟨R, rfl, hv⟩ := hv
  refine (of_any v R w hT hv (by simpa using hn) (fun x hx => hs _ (List.mem_map.2 ⟨x, hx, rfl⟩))).mono ?_
  rintro e w' ⟨a, b, d, c, rfl, hl, hr, -, hb⟩
  rw [<- leftOf_eq hr]
  exact ⟨_, rfl, hl.is, hb⟩
theorem c_refof {l : List Mu} (hT : Tabs w) (hv : Reads w v l) (hn : l.length <= 10000) (hs : ∀ m ∈ l, Small m) : Calls Tryz.prog 7 #[v] w (RetC (leftOf l) w) := by
  obtain ⟨R, rfl, hv⟩ := hv
  refine (refof_con v R w hT hv (fun x hx => hs _ (List.mem_map.2 ⟨x, hx, rfl⟩)) (by simpa using hn)).mono ?_
  rintro e w' ⟨a, b, d, c, rfl, hl, hr, -, hb⟩
  rw [<- leftOf_eq hr]
  exact ⟨_, rfl, hl.is, hb⟩
theorem c_join (hT : Tabs w) (hv : IsC c v w) (h : Good c n) (hv' : IsC c' v' w) (h' : Good c' n') (hn : n + n' <= 90000) : Calls Tryz.prog 40 #[v, v'] w (RetC (joinC c c') w) := by
  obtain ⟨a, b, d, rfl, hl⟩ := hv
  obtain ⟨a', b', d', rfl, hl'⟩ := hv'
  refine (join_any a b d a' b' d' c c' _ _ n n' w hT hl h.reps h.okc hl' h'.reps h'.okc hn).mono ?_
  rintro e w' ⟨a, b, d, c2, rfl, hl, hr, -, hb⟩
  have : c2 = joinC c c' := leftOf_eq (hr.same fun m => by rw [fits_append, h.fits, h'.fits])
  rw [<- this]
  exact ⟨_, rfl, hl.is, hb⟩
theorem c_same (q : Bool) (hq : q = true ↔ c = c') (hv : IsC c v w) (h : Good c n) (hv' : IsC c' v' w) (h' : Good c' n') (hn : n <= 100000) (hn' : n' <= 100000) : Calls Tryz.prog 39 #[v, v'] w (RetB q w) := by
  obtain ⟨a, b, d, rfl, hl⟩ := hv
  obtain ⟨a', b', d', rfl, hl'⟩ := hv'
  exact same_con a b d a' b' d' c c' _ _ n n' w q hq hl h.reps h.okc hl' h'.reps h'.okc hn hn'
theorem c_is (q : Bool) (hq : q = true ↔ c = c') (hv : IsC c v w) (h : Good c n) (hv' : IsC c' v' w) (h' : Good c' n') : Calls Tryz.prog 26 #[v, v'] w (RetB q w) := by
  obtain ⟨a, b, d, rfl, hl⟩ := hv
  obtain ⟨a', b', d', rfl, hl'⟩ := hv'
  exact is_any a b d a' b' d' c c' q w hq hl hl' (fun m hm => small_right (h.okc.right m hm)) (fun m hm => small_right (h'.okc.right m hm))
theorem c_all (hv : IsC c v w) (h : Good c n) (hn : n <= 100000) : Calls Tryz.prog 76 #[v] w fun e w' => ∃ g cap R, e = .returned (.slice (some ⟨g, 0, none⟩) R.length cap) /\ Copied w' (.slice (some ⟨g, 0, none⟩) R.length cap) R w.heap.size /\ R.map (·.1) = allF c /\ Below w.heap.size w w' := by
  obtain ⟨a, b, d, rfl, hl⟩ := hv
  refine (all_any a b d c n w hl h.okc hn).mono ?_
  rintro e w' ⟨g, cap, R, rfl, hc, hp, hs, hb⟩
  have e1 : c.all.length = R.length := by have := hp.length_eq; simpa using this.symm
  rw [e1] at hc ⊢
  exact ⟨g, cap, R, rfl, hc, h.all_eq (AllOf.of_perm h.reps hp hs), hb⟩
theorem c_refall (hv : IsC c v w) (h : Good c n) (hn : n <= 90000) : Calls Tryz.prog 21 #[v] w (RetR (allF c) w) := by
  obtain ⟨a, b, d, rfl, hc⟩ := hv
  obtain ⟨⟨A, ea, hA⟩, ⟨B, eb, hB⟩, ⟨D, ed, hD⟩⟩ := hc
  obtain ⟨q1, q2, q3⟩ := allRo_spec A B D
  have hln : c.all.length = A.length + (B.length + D.length) := by unfold Con.all; rw [<- ea, <- eb, <- ed]; simp
  have hlo := h.okc.len
  refine (refall_any a b d A B D w hA hB hD (fun x hx => small_right (h.okc.right _ (Con.mem_all.2 ?_))) (by omega)).mono ?_
  . rcases hx with h | h | h
    . exact Or.inl (ea ▸ List.mem_map.2 ⟨x, h, rfl⟩)
    . exact Or.inr (Or.inl (eb ▸ List.mem_map.2 ⟨x, h, rfl⟩))
    . exact Or.inr (Or.inr (ed ▸ List.mem_map.2 ⟨x, h, rfl⟩))
  . rintro e w' ⟨v, rfl, hv, hb⟩
    exact ⟨v, rfl, ⟨_, h.all_eq ⟨q1, fun m => by rw [q2, Con.mem_all, ea, eb, ed]⟩, hv⟩, hb⟩
end
