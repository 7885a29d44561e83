/- A region that draws its order, whose operations may change memory: what was told of an operation may be used up by one other (its consumer), as a row is by the append to it. PRINTED by wip/genreglin.py. -/
import Derived.Test.YtmjelcjdfamikaaGreatDoorRegSp2
set_option linter.unusedSimpArgs false
set_option linter.unusedVariables false
namespace Go.Proofs.YtmjelcjdfamikaaGreatDoor.RegLin
open Go Go.RowKit Go.Proofs.YtmjelcjdfamikaaGreatDoor.RegInv

/-- Operation j runs only behind operation i. -/
def anc (ops : Array Oper) : Nat → Nat → Nat → Bool
  | 0, _, _ => false
  | f + 1, j, i => Region.waitsFor .any ops j i || (List.range j).any fun k => Region.waitsFor .any ops j k && anc ops f k i
def rdB (ops : Array Oper) (n : Nat) (rd : List (List Nat)) : Bool := (List.range n).all fun i => (rd.getD i []).all fun r => (List.range n).all fun j => !(dstOf ops j == some r) || (!(j == i) && anc ops n i j)
/-- What an operation leaves: what holds always, what holds till an operation runs, what was told and is not used up yet. -/
def Keeps (ops : Array Oper) (S : List RSpec) (Com : World → Prop) (Pre : Nat → World → Prop) (use : Nat → Option Nat) (n i : Nat) (V : Vals) (w w' : World) : Prop :=
  Com w' ∧ (∀ j, j < n → j ≠ i → anc ops n i j = false → Pre j w → Pre j w') ∧
  ∀ j, j < n → j ≠ i → use j ≠ some i → anc ops n j i = false → (∀ c, use j = some c → anc ops n i c = false) → RegInv.Told ops S j V w → RegInv.Told ops S j V w'
section
variable {P : Program} {ops : Array Oper} {Q : Exit → Act → World → Prop}
variable {n : Nat} {m : List Bool} {S : List RSpec} {a0 : Act} {w0 : World} {Com : World → Prop} {Pre : Nat → World → Prop} {use : Nat → Option Nat}
/-- What changes nothing that was keeps all. -/
theorem keeps_below (hcm : ∀ w w', Com w → Below w.heap.size w w' → Com w') (hpr : ∀ j w w', Pre j w → Below w.heap.size w w' → Pre j w') {i : Nat} {V : Vals} {w w' : World} (hc : Com w) (hb : Below w.heap.size w w') : Keeps ops S Com Pre use n i V w w' :=
  ⟨hcm _ _ hc hb, fun j _ _ _ h => hpr _ _ _ h hb, fun j _ _ _ _ _ h => (S.getD j sFree).mono _ _ _ _ h hb⟩
theorem anc_listed {listed : Array Bool} (inv : HeadInv .any ops n listed) : ∀ (f j i : Nat), anc ops f j i = true → listed.getD j false = true → listed.getD i false = true
  | 0, j, i, h, _ => Bool.noConfusion h
  | f + 1, j, i, h, hl => by
    unfold anc at h
    rw [Bool.or_eq_true] at h
    rcases h with h | h
    · obtain ⟨o', ho', e, he, hbd, hon⟩ := Region.waitsFor_spec h
      rw [← hon]
      exact inv.closed j o' ho' hl e he hbd
    · obtain ⟨k, hk, h2⟩ := List.any_eq_true.1 h
      rw [Bool.and_eq_true] at h2
      obtain ⟨o', ho', e, he, hbd, hon⟩ := Region.waitsFor_spec h2.1
      exact anc_listed inv f k i h2.2 (by rw [← hon]; exact inv.closed j o' ho' hl e he hbd)
theorem anc_ready {listed : Array Bool} (inv : HeadInv .any ops n listed) {i : Nat} {o : Oper} (ho : ops[i]? = some o) (hdeps : ∀ e ∈ o.after, Region.binds .any e = true → listed.getD e.on false = true) : ∀ (f j : Nat), anc ops f i j = true → listed.getD j false = true
  | 0, j, h => Bool.noConfusion h
  | f + 1, j, h => by
    unfold anc at h
    rw [Bool.or_eq_true] at h
    rcases h with h | h
    · obtain ⟨o', ho', e, he, hbd, hon⟩ := Region.waitsFor_spec h
      obtain rfl : o' = o := Option.some.inj (ho'.symm.trans ho)
      rw [← hon]
      exact hdeps e he hbd
    · obtain ⟨k, hk, h2⟩ := List.any_eq_true.1 h
      rw [Bool.and_eq_true] at h2
      obtain ⟨o', ho', e, he, hbd, hon⟩ := Region.waitsFor_spec h2.1
      obtain rfl : o' = o := Option.some.inj (ho'.symm.trans ho)
      exact anc_listed inv f k j h2.2 (by rw [← hon]; exact hdeps e he hbd)
theorem region_lin_any (hB : headB ops n m [] = true) (hR : rdB ops n (S.map (·.reads)) = true)
    (hsz : ∀ i, i < n → ∀ V d, dstOf ops i = some d → d < (over a0 m V).tmps.size)
    (hstep : ∀ i, i < n → ∀ o, ops[i]? = some o → ∀ V w, Com w → Pre i w → (∀ j, j < n → anc ops n i j = true → (∀ c, use j = some c → c = i) → RegInv.Told ops S j V w) →
      wpList P ops (RegKeep.stepPost (Keeps ops S Com Pre use n i V) Q (over a0 m V) w o (fun v w' => (S.getD i sFree).tells ((S.getD i sFree).reads.map V) v w')) [o] (over a0 m V) w)
    (hfin : ∀ V w, Com w → (∀ j, j < n → use j = none → RegInv.Told ops S j V w) → wpList P ops Q (ops.toList.drop n) (over a0 m V) w) :
    ∀ (c : Nat) (listed : Array Bool) (V : Vals) (w : World), ((List.range n).filter fun i => !listed.getD i false).length = c → HeadInv .any ops n listed → Com w → (∀ j, j < n → listed.getD j false = false → Pre j w) →
      (∀ j, j < n → listed.getD j false = true → (∀ c, use j = some c → listed.getD c false = false) → RegInv.Told ops S j V w) → wpAny P .any ops Q (c + (ops.size - n)) listed (over a0 m V) w := by
  obtain ⟨hn, hs, hc, hq, hall⟩ := RegInv.headB_spec (S := []) hB
  have hrd : ∀ i, i < n → ∀ r ∈ (S.getD i sFree).reads, ∀ j, j < n → dstOf ops j = some r → j ≠ i ∧ anc ops n i j = true := by
    intro i hi r hr j hj hdj
    have e1 : (S.map (·.reads)).getD i [] = (S.getD i sFree).reads := by
      simp only [List.getD_eq_getElem?_getD, List.getElem?_map]
      cases S[i]? <;> rfl
    have h1 := List.all_eq_true.1 hR i (List.mem_range.2 hi)
    rw [e1] at h1
    have h2 := List.all_eq_true.1 (List.all_eq_true.1 h1 r hr) j (List.mem_range.2 hj)
    simpa [hdj] using h2
  intro c
  induction c with
  | zero =>
    intro listed V w hcount inv hb hpre ht
    have hlist : ∀ j, j < n → listed.getD j false = true := fun j hj => by
      cases e : listed.getD j false with
      | true => rfl
      | false =>
        have : j ∈ (List.range n).filter fun i => !listed.getD i false := List.mem_filter.2 ⟨List.mem_range.2 hj, by rw [e]; rfl⟩
        have h0 := List.length_eq_zero_iff.1 hcount
        rw [h0] at this
        cases this
    have he : listed = ⟨List.replicate n true ++ List.replicate (ops.size - n) false⟩ := by
      apply Array.ext
      · rw [inv.size]; simp; omega
      · intro i h1 h2
        have hi : i < ops.size := by rw [← inv.size]; exact h1
        simp only [List.getElem_toArray]
        rw [List.getElem_append]
        split
        · rename_i hlt
          have := hlist i (by simpa using hlt)
          simpa [h1] using this
        · rename_i hge
          have := inv.tail i (by simpa using hge) hi
          simpa [h1] using this
    subst he
    rw [Nat.zero_add]
    have := wpAny_of_seq (md := .any) (Q' := Q) (ops.toList.drop n) n _ (over a0 m V) w (fun j => by simp [List.getElem?_drop]) (by rw [List.length_drop, Array.length_toList]; exact hq) (hfin V w hb (fun j hj hu => ht j hj (hlist j hj) (fun c hc => by rw [hu] at hc; cases hc)))
    rwa [List.length_drop, Array.length_toList] at this
  | succ c ih =>
    intro listed V w hcount inv hb hpre ht
    -- one that isn't listed yet
    have hex : ∃ i, i < n ∧ listed.getD i false = false := by
      have : (List.range n).filter (fun i => !listed.getD i false) ≠ [] := fun e => by rw [e] at hcount; cases hcount
      obtain ⟨i, hi⟩ := List.exists_mem_of_ne_nil _ this
      obtain ⟨h1, h2⟩ := List.mem_filter.1 hi
      exact ⟨i, List.mem_range.1 h1, by simpa using h2⟩
    have hleast : ∃ i, i < n ∧ listed.getD i false = false ∧ ∀ j, j < i → listed.getD j false = true := by
      obtain ⟨i, h1, h2⟩ := hex
      induction i using Nat.strongRecOn with
      | _ i ihi =>
        by_cases hj : ∃ j, j < i ∧ listed.getD j false = false
        · obtain ⟨j, hj1, hj2⟩ := hj
          exact ihi j hj1 (by omega) hj2
        · refine ⟨i, h1, h2, fun j hji => ?_⟩
          cases e : listed.getD j false with
          | true => rfl
          | false => exact absurd ⟨j, hji, e⟩ hj
    obtain ⟨i0, hi0, hl0, hmin⟩ := hleast
    have hi0s : i0 < ops.size := by omega
    have hready : i0 ∈ Region.ready .any ops listed := by
      refine mem_ready.2 ⟨getD_in (by rw [inv.size]; exact hi0s) hl0, ops[i0], by simp [hi0s], fun e he hbd => hmin e.on ?_⟩
      exact (hall i0 hi0 _ (by simp [hi0s])).1 e he hbd
    rw [show c + 1 + (ops.size - n) = (c + (ops.size - n)) + 1 by omega]
    refine ⟨fun h0 => absurd hready (by rw [h0]; exact List.not_mem_nil), fun i hi => ?_⟩
    have hin : i < n := by
      apply Nat.lt_of_not_le
      intro hle
      have hnlt : n < ops.size := by
        obtain ⟨_, o, ho, _⟩ := mem_ready.1 hi
        have := (Array.getElem?_eq_some_iff.1 ho).1
        omega
      exact tail_waits hs hc hnlt inv _ i0 rfl hi0 (getD_in (by rw [inv.size]; exact hi0s) hl0) i hle hi
    obtain ⟨hun, o, ho, hdeps⟩ := mem_ready.1 hi
    have hunf := getD_both hun
    have hd : dstOf ops i = o.dst := by unfold dstOf; rw [ho]; rfl
    have hwaits : ∀ j, j < n → anc ops n i j = true → (∀ c, use j = some c → c = i) → RegInv.Told ops S j V w := fun j hj hw hu => ht j hj (anc_ready inv ho hdeps n j hw) (fun c hc => by rw [hu c hc]; exact hunf)
    refine RegKeep.wpOp_step (Kp := Keeps ops S Com Pre use n i V) (T := fun v w' => (S.getD i sFree).tells ((S.getD i sFree).reads.map V) v w') ho (fun d hdd => hsz i hin V d (by rw [hd]; exact hdd)) (hstep i hin o ho V w hb (hpre i hin hunf) hwaits) ?_
    rintro v w' hb' hT
    rw [over_put a0 m V o.dst v (fun k hk => ((hall i hin o ho).2.1 k hk).1)]
    have hpi := hpre i hin hunf
    obtain ⟨hcom, hkp, hkt⟩ := hb'
    have hpre' : ∀ j, j < n → j ≠ i → listed.getD j false = false → Pre j w → Pre j w' := fun j hj hne hlu hp => hkp j hj hne (by
      cases h : anc ops n i j with
      | false => rfl
      | true => rw [anc_ready inv ho hdeps n j h] at hlu; cases hlu) hp
    have htell : ∀ j, j < n → j ≠ i → listed.getD j false = true → (∀ c, use j = some c → (listed.setIfInBounds i true).getD c false = false) → RegInv.Told ops S j V w' := fun j hj hne hl hu => by
      have hu2 : ∀ c, use j = some c → c ≠ i ∧ listed.getD c false = false := fun c hc => by
        have h := hu c hc
        have hci : c ≠ i := fun e => by
          subst e
          have hsi : c < listed.size := by rw [inv.size]; omega
          simp [hsi] at h
        rw [getD_set_ne false (Ne.symm hci)] at h
        exact ⟨hci, h⟩
      refine hkt j hj hne (fun e => (hu2 i e).1 rfl) ?_ (fun c hc => ?_) (ht j hj hl fun c hc => (hu2 c hc).2)
      · cases h : anc ops n j i with
        | false => rfl
        | true => rw [anc_listed inv n j i h hl] at hunf; cases hunf
      · cases h : anc ops n i c with
        | false => rfl
        | true => have := (hu2 c hc).2; rw [anc_ready inv ho hdeps n c h] at this; cases this
    have hdist : ∀ j, j < n → j ≠ i → slotV ops j (upd V o.dst v) = slotV ops j V := fun j hj hne => by
      unfold slotV
      cases hdj : dstOf ops j with
      | none => rfl
      | some d =>
        cases hdo : o.dst with
        | none => rfl
        | some d' =>
          have h1 := ((hall i hin o ho).2.1 d' hdo).2 j hj hne
          rw [hdj] at h1
          have : ¬ d = d' := fun e => h1 (by rw [e])
          simp [upd, this]
    have hsame : ∀ j, j ≠ i → (listed.setIfInBounds i true).getD j false = true → listed.getD j false = true := fun j hne h => by rwa [getD_set_ne false (Ne.symm hne)] at h
    refine ih (listed.setIfInBounds i true) _ w' ?_ (inv.set hi hin) hcom (fun j hj hlj => ?_) ?_
    rotate_left 1
    · have hne : j ≠ i := fun e => by
        subst e
        have hsi : j < listed.size := by rw [inv.size]; omega
        simp [hsi] at hlj
      rw [getD_set_ne false (Ne.symm hne)] at hlj
      exact hpre' j hj hne hlj (hpre j hj hlj)
    rotate_left 1
    · -- one fewer
      have hnd : (List.range n).Nodup := List.nodup_range
      have hperm : ((List.range n).filter fun k => !listed.getD k false).Perm (i :: (List.range n).filter fun k => !(listed.setIfInBounds i true).getD k false) := by
        refine (List.perm_ext_iff_of_nodup (hnd.filter _) ?_).2 ?_
        · refine List.nodup_cons.2 ⟨?_, hnd.filter _⟩
          intro hm
          have := (List.mem_filter.1 hm).2
          have hsi : i < listed.size := by rw [inv.size]; omega
          simp [hsi] at this
        · intro k
          rw [List.mem_cons, List.mem_filter, List.mem_filter]
          by_cases hki : k = i
          · subst hki
            simp only [true_or, iff_true]
            exact ⟨List.mem_range.2 hin, by rw [hunf]; rfl⟩
          · rw [getD_set_ne false (Ne.symm hki)]
            simp [hki]
      have := hperm.length_eq
      rw [hcount] at this
      simpa using this.symm
    · intro j hj hlj hlu
      have hstay : j ≠ i → RegInv.Told ops S j V w' := fun hne => by
        rw [getD_set_ne false (Ne.symm hne)] at hlj
        exact htell j hj hne hlj hlu
      by_cases hji : j = i
      · subst hji
        unfold RegInv.Told RSpec.holds
        rw [hd]
        have e1 : (S.getD j sFree).reads.map (upd V o.dst v) = (S.getD j sFree).reads.map V := by
          cases hdo : o.dst with
          | none => rfl
          | some d =>
            refine List.map_congr_left fun r hr => ?_
            have : ¬ r = d := fun e => (hrd j hj r hr j hj (by rw [hd, hdo, e])).1 rfl
            simp [upd, this]
        rw [e1]
        cases hdo : o.dst with
        | none => rw [hdo] at hT; exact hT
        | some d => rw [hdo] at hT; simpa [upd] using hT
      · rw [← hd]
        refine RegInv.told_upd (fun hn0 => ?_) (fun r hr hrd2 => ?_) V v w' (hstay hji)
        · intro e
          cases hdo : dstOf ops i with
          | none => exact hn0 hdo
          | some d =>
            rw [hdo] at e
            obtain ⟨oj, hoj⟩ : ∃ oj, ops[j]? = some oj := ⟨ops[j], by simp [show j < ops.size by omega]⟩
            have hdj : oj.dst = some d := by unfold dstOf at e; rw [hoj] at e; exact e
            exact ((hall j hj oj hoj).2.1 d hdj).2 i hin (Ne.symm hji) hdo
        · rw [getD_set_ne false (Ne.symm hji)] at hlj
          have := anc_listed inv n j i (hrd j hj r hr i hin hrd2).2 hlj
          rw [hunf] at this
          cases this

theorem wp_region_lin_inv {id : Nat} {l : List Oper} {a : Act} {w : World} (hm : P.follows .mixedOrders = true) (hB : headB l.toArray n m [] = true) (hR : rdB l.toArray n (S.map (·.reads)) = true)
    (hcom : Com w.drew) (hpre : ∀ j, j < n → Pre j w.drew) (F : Vals → Act) (hF : ∀ V, over a m V = F V)
    (hsz : (List.range n).all (fun i => match dstOf l.toArray i with | none => true | some d => decide (d < a.tmps.size)) = true)
    (hstep : ∀ i, i < n → ∀ o, l.toArray[i]? = some o → ∀ V w', Com w' → Pre i w' → (∀ j, j < n → anc l.toArray n i j = true → (∀ c, use j = some c → c = i) → RegInv.Told l.toArray S j V w') →
      wpList P l.toArray (RegKeep.stepPost (Keeps l.toArray S Com Pre use n i V) Q (F V) w' o (fun v w'' => (S.getD i sFree).tells ((S.getD i sFree).reads.map V) v w'')) [o] (F V) w')
    (hfin : ∀ V w', Com w' → (∀ j, j < n → use j = none → RegInv.Told l.toArray S j V w') → wpList P l.toArray Q (l.drop n) (F V) w') :
    (Code.region id l.toArray true).wp P Q a w := by
  have hlen : ∀ (m : List Bool) (V : Vals) (k : Nat) (x : List Value), (overL m V k x).length = x.length := by
    intro m V
    induction m with
    | nil => intro k x; rfl
    | cons b m ih =>
      intro k x
      cases x with
      | nil => cases b <;> rfl
      | cons y x => cases b <;> (show _ + 1 = _; rw [ih]; rfl)
  have H := region_lin_any (P := P) (Q := Q) (ops := l.toArray) (n := n) (m := m) (S := S) (a0 := a) (Com := Com) (Pre := Pre) (use := use) hB hR
    (fun i hi V d hd => by
      have := List.all_eq_true.1 hsz i (List.mem_range.2 hi)
      rw [hd] at this
      have h2 : d < a.tmps.size := by simpa using this
      unfold over
      simp [hlen, h2])
    (fun i hi o ho V w' hb hp ht => by rw [hF]; exact hstep i hi o ho V w' hb hp ht) (fun V w' hb ht => by rw [hF]; simpa using hfin V w' hb ht)
  obtain ⟨hn, -⟩ := RegInv.headB_spec (S := []) hB
  have h0 := H n (Array.replicate l.toArray.size false) (fun k => a.tmps.getD k undef) w.drew
    (by
      have : (List.range n).filter (fun i => !(Array.replicate l.toArray.size false).getD i false) = List.range n := List.filter_eq_self.2 fun i _ => by rw [getD_replicate_false]; rfl
      rw [this, List.length_range])
    ⟨by simp, fun j oj _ hl => (by rw [getD_replicate_false] at hl; exact Bool.noConfusion hl), fun t _ ht => getD_in (by simpa using ht) (getD_replicate_false _ _)⟩
    hcom (fun j hj _ => hpre j hj) (fun j _ hl _ => (by rw [getD_replicate_false] at hl; exact Bool.noConfusion hl))
  rw [over_id] at h0
  refine wp_region_any hm ?_
  rwa [Nat.add_sub_cancel' hn] at h0

/-- The obligations, one for each operation of the head. -/
def Steps (P : Program) (ops : Array Oper) (Q : Exit → Act → World → Prop) (S : List RSpec) (Com : World → Prop) (Pre : Nat → World → Prop) (use : Nat → Option Nat) (n : Nat) (F : Vals → Act) : Nat → List Oper → Prop
  | _, [] => True
  | i, o :: r => (∀ V w', Com w' → Pre i w' → (∀ j, j < n → anc ops n i j = true → (∀ c, use j = some c → c = i) → RegInv.Told ops S j V w') → ∀ K : Exit → Act → World → Prop,
      (∀ a' w'', a'.defers = (F V).defers → Keeps ops S Com Pre use n i V w' w'' → (S.getD i sFree).tells ((S.getD i sFree).reads.map V) (slotAt o.dst a') w'' → K .normal a' w'') → (∀ e a w, e ≠ .normal → Q e a w → K e a w) →
      wpList P ops K [o] (F V) w') ∧ Steps P ops Q S Com Pre use n F (i + 1) r
theorem Steps.get {F : Vals → Act} : ∀ (r : List Oper) (i : Nat), Steps P ops Q S Com Pre use n F i r → ∀ k o, r[k]? = some o → ∀ V w', Com w' → Pre (i + k) w' → (∀ j, j < n → anc ops n (i + k) j = true → (∀ c, use j = some c → c = i + k) → RegInv.Told ops S j V w') →
      wpList P ops (RegKeep.stepPost (Keeps ops S Com Pre use n (i + k) V) Q (F V) w' o (fun v w'' => (S.getD (i + k) sFree).tells ((S.getD (i + k) sFree).reads.map V) v w'')) [o] (F V) w' := by
  intro r
  induction r with
  | nil => intro i _ k o h; simp at h
  | cons o r ih =>
    intro i h k o' ho V w' hb hp ht
    cases k with
    | zero =>
      obtain rfl : o = o' := by simpa using ho
      exact h.1 V w' hb hp ht _ (fun a' w'' h1 h2 h3 => ⟨h1, h2, h3⟩) (fun e a w hne hq => by cases e <;> first | exact absurd rfl hne | exact hq)
    | succ k =>
      have e : i + 1 + k = i + (k + 1) := by omega
      have := ih (i + 1) h.2 k o' (by simpa using ho) V w' hb (by rw [e]; exact hp) (by rw [e]; exact ht)
      rwa [e] at this

/-- Who uses up what: the pairs. -/
def useL (U : List (Nat × Nat)) (j : Nat) : Option Nat := (U.find? fun p => p.1 == j).map (·.2)
theorem useL_ok {U : List (Nat × Nat)} {i j : Nat} (h : (match useL U j with | none => true | some c => c == i) = true) : ∀ c, useL U j = some c → c = i := fun c hc => by
  rw [hc] at h
  simpa using h
/-- Is what was told of j still to be kept by i? -/
def liveB (ops : Array Oper) (n : Nat) (U : List (Nat × Nat)) (i j : Nat) : Bool := !(useL U j == some i) && (!anc ops n j i && match useL U j with | none => true | some c => !anc ops n i c)
/-- An operation that changes memory: what holds always; that nobody waits for what it spoils (c: the operation that asks for something); what was told and lives on. -/
theorem keeps_by {U : List (Nat × Nat)} {c i : Nat} {X : World → Prop} {V : Vals} {w w' : World} (hC : Com w') (hc : (i == c || anc ops n i c) = true) (hT : ∀ j, j < n → j ≠ i → liveB ops n U i j = true → RegInv.Told ops S j V w → RegInv.Told ops S j V w') :
    Keeps ops S Com (fun j W => j = c → X W) (useL U) n i V w w' := by
  refine ⟨hC, fun j hj hne ha h e => ?_, fun j hj hne h1 h2 h3 h => hT j hj hne ?_ h⟩
  · subst e
    rw [ha, Bool.or_false, beq_iff_eq] at hc
    exact absurd hc.symm hne
  · unfold liveB
    have e1 : (useL U j == some i) = false := by
      cases e : (useL U j == some i) with
      | false => rfl
      | true => exact absurd (by simpa using e) h1
    rw [e1, h2]
    cases hu : useL U j with
    | none => rfl
    | some k => simp [h3 k hu]
/-- 'use j = some c': what is told of j is used up by c. -/
theorem wp_region_lin (use : Nat → Option Nat) (Com : World → Prop) (Pre : Nat → World → Prop) {id : Nat} {l : List Oper} {a : Act} {w : World} (n : Nat) (m : List Bool) (S : List RSpec) (hcom : Com w.drew) (hpre : ∀ j, j < n → Pre j w.drew)
    (hm : P.follows .mixedOrders = true) (hB : headB l.toArray n m [] = true) (hR : rdB l.toArray n (S.map (·.reads)) = true)
    (hsz : (List.range n).all (fun i => match dstOf l.toArray i with | none => true | some d => decide (d < a.tmps.size)) = true)
    (h : ∀ F : Vals → Act, (∀ V, F V = over a m V) → Steps P l.toArray Q S Com Pre use n F 0 (l.take n) ∧ ∀ V w', Com w' → (∀ j, j < n → use j = none → RegInv.Told l.toArray S j V w') → wpList P l.toArray Q (l.drop n) (F V) w') :
    (Code.region id l.toArray true).wp P Q a w := by
  obtain ⟨h1, h2⟩ := h (over a m) (fun _ => rfl)
  refine wp_region_lin_inv (use := use) (Com := Com) (Pre := Pre) hm hB hR hcom hpre (over a m) (fun _ => rfl) hsz (fun i hi o ho V w' hb hp ht => ?_) h2
  have := h1.get (l.take n) 0 i o (by rw [List.getElem?_take, if_pos hi]; simpa using ho) V w' hb (by rw [Nat.zero_add]; exact hp) (by rw [Nat.zero_add]; exact ht)
  rwa [Nat.zero_add] at this
end
theorem ask {ops : Array Oper} {n i : Nat} {U : List (Nat × Nat)} {S : List RSpec} {V : Vals} {w : World} (hd : ∀ j, j < n → anc ops n i j = true → (∀ c, useL U j = some c → c = i) → RegInv.Told ops S j V w) (j : Nat) (h1 : j < n := by decide) (h2 : anc ops n i j = true := by kernel_rfl) (h3 : (match useL U j with | none => true | some c => c == i) = true := by kernel_rfl) : RegInv.Told ops S j V w := hd j h1 h2 (useL_ok h3)
theorem dead {ops : Array Oper} {n i j : Nat} {U : List (Nat × Nat)} {C : Prop} (hl : liveB ops n U i j = true) (h : liveB ops n U i j = false := by kernel_rfl) : C := Bool.noConfusion (hl.symm.trans h)
end Go.Proofs.YtmjelcjdfamikaaGreatDoor.RegLin
