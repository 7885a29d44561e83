/- RegKeep, RegSp, From: in one text. -/
import Derived.Test.YtipoeigehabbmaaGreatDoorRegApp
import Derived.Test.YtipoeigehabbmaaGreatDoorFixWalk
/- A region that draws its order, told operation by operation, where worlds follow each other by ANY preorder Kp (say: these rows stay owned, these cells stay), not only by 'what was stays'. PRINTED by wip/genregkeep.py. -/
set_option linter.unusedSimpArgs false
set_option linter.unusedVariables false
namespace Go.Proofs.YtipoeigehabbmaaGreatDoor.RegKeep
open Go Go.RowKit Go.Proofs.YtipoeigehabbmaaGreatDoor.RegInv

/-- What is asked of the preorder. -/
structure Goes (Kp : World → World → Prop) : Prop where
  drew : ∀ w, Kp w w.drew
  trans : ∀ {a b c}, Kp a b → Kp b c → Kp a c
  size : ∀ {a b}, Kp a b → a.heap.size ≤ b.heap.size
structure KSpec (Kp : World → World → Prop) where
  reads : List Nat
  tells : List Value → Value → World → Prop
  mono : ∀ l v w w', tells l v w → Kp w w' → tells l v w'
section
variable {Kp : World → World → Prop}
def kOne (t : Value → World → Prop) (h : ∀ v w w', t v w → Kp w w' → t v w') : KSpec Kp := ⟨[], fun _ v w => t v w, fun _ v w w' => h v w w'⟩
def kFree : KSpec Kp := ⟨[], fun _ _ _ => True, fun _ _ _ _ h _ => h⟩
def kLit (u : Value) : KSpec Kp := ⟨[], fun _ v _ => v = u, fun _ _ _ _ h _ => h⟩
def KSpec.holds (s : KSpec Kp) (d : Option Tmp) (V : Vals) (w : World) : Prop := s.tells (s.reads.map V) (match d with | some d => V d | none => undef) w
/-- What is asked behind an operation. -/
def stepPost (Kp : World → World → Prop) (Q : Exit → Act → World → Prop) (a : Act) (w : World) (o : Oper) (T : Value → World → Prop) : Exit → Act → World → Prop
  | .normal, a', w' => a'.defers = a.defers ∧ Kp w w' ∧ T (slotOf o a') w'
  | e, a', w' => Q e a' w'

theorem slot_put {o : Oper} {a : Act} {v : Value} (h : ∀ d, o.dst = some d → d < a.tmps.size) : slotOf o (a.put o.dst v) = match o.dst with | some _ => v | none => undef := by
  unfold slotOf
  cases hd : o.dst with
  | none => rfl
  | some d => simp [Act.put, h d hd]

variable {P : Program} {ops : Array Oper} {Q : Exit → Act → World → Prop}

theorem upon_step {o : Oper} {a : Act} {w0 : World} {T : Value → World → Prop} {K : Act → World → Prop} (hsz : ∀ d, o.dst = some d → d < a.tmps.size)
    (hK : ∀ v w', Kp w0 w' → T (match o.dst with | some _ => v | none => undef) w' → K (a.put o.dst v) w') (r : Result Next)
    (h : o.upon P a (wpList P ops (stepPost Kp Q a w0 o T) []) (stepPost Kp Q a w0 o T) r) : o.upon P a K Q r := by
  have key : ∀ v w', wpList P ops (stepPost Kp Q a w0 o T) [] (a.put o.dst v) w' → K (a.put o.dst v) w' := fun v w' hh => by
    have h3 : _ ∧ _ ∧ _ := hh
    exact hK v w' h3.2.1 (by rw [← slot_put hsz]; exact h3.2.2)
  have out : LetsOut (stepPost Kp Q a w0 o T) → LetsOut Q := fun ⟨a', w', hh⟩ => ⟨a', w', hh⟩
  cases r with
  | ok n w' =>
    cases n with
    | value v => exact key v w' h
    | skip => exact key undef w' h
    | defer d =>
      exfalso
      have h3 : _ ∧ _ ∧ _ := h
      have h4 := h3.1
      cases hd : o.dst <;> simp [Act.put, hd] at h4
    | enter f args =>
      refine Calls.mono (show Calls P f args w' _ from h) ?_
      intro e w'' he
      cases e with
      | returned v => exact key v w'' he
      | panicked c => exact he
      | outgrown => exact out he
    | row row args => exact Rows.mono (show Rows P row args w' _ from h) (fun v w'' he => key v w'' he)
    | _ => exact h
  | halt x w' => cases x <;> exact h

theorem wpOp_step {i : Nat} {o : Oper} {a : Act} {w : World} {T : Value → World → Prop} {K : Act → World → Prop} (ho : ops[i]? = some o) (hsz : ∀ d, o.dst = some d → d < a.tmps.size)
    (h : wpList P ops (stepPost Kp Q a w o T) [o] a w)
    (hK : ∀ v w', Kp w w' → T (match o.dst with | some _ => v | none => undef) w' → K (a.put o.dst v) w') : wpOp P ops Q i K a w := by
  unfold wpOp
  simp only [ho]
  unfold wpList at h
  split
  · rename_i hw
    rw [if_pos hw] at h
    rcases h with h | ⟨h1, a', w', h2⟩
    · exact Or.inl (upon_step hsz hK _ h)
    · exact Or.inr ⟨h1, a', w', h2⟩
  · rename_i hw
    rw [if_neg hw] at h
    have h3 : _ ∧ _ ∧ _ := h
    exact hK undef w h3.2.1 (by rw [← slot_put hsz]; exact h3.2.2)

variable {n : Nat} {m : List Bool} {S : List (KSpec Kp)} {fr : List Nat} {a0 : Act} {w0 : World}
/-- What is told of operation j. -/
def Told (ops : Array Oper) (S : List (KSpec Kp)) (j : Nat) (V : Vals) (w : World) : Prop := (S.getD j kFree).holds (dstOf ops j) V w

theorem told_upd {i j : Nat} (hne : dstOf ops i ≠ none → dstOf ops j ≠ dstOf ops i) (hr : ∀ r ∈ (S.getD j kFree).reads, dstOf ops i ≠ some r) (V : Vals) (v : Value) (w : World) (h : Told ops S j V w) : Told ops S j (upd V (dstOf ops i) v) w := by
  unfold Told KSpec.holds at *
  cases hi : dstOf ops i with
  | none => exact h
  | some d =>
    have e1 : (S.getD j kFree).reads.map (upd V (some d) v) = (S.getD j kFree).reads.map V := List.map_congr_left fun r hm => by
      have := hr r hm
      rw [hi] at this
      simp [upd, show ¬ r = d from fun e => this (by rw [e])]
    rw [e1]
    have hj := hne (by rw [hi]; exact fun e => by cases e)
    rw [hi] at hj
    cases hdj : dstOf ops j with
    | none => rw [hdj] at h; exact h
    | some k =>
      rw [hdj] at h hj
      have : ¬ k = d := fun e => hj (by rw [e])
      simpa [upd, this] using h

theorem headB_spec (h : headB ops n m (S.map (·.reads)) = true) :
    n ≤ ops.size ∧ Region.sinkB .any ops n = true ∧ Region.chainB .any ops n = true ∧ Region.seqB .any ops (ops.size - n) n ⟨List.replicate n true ++ List.replicate (ops.size - n) false⟩ = true ∧
    (∀ i, i < n → ∀ o, ops[i]? = some o → (∀ e ∈ o.after, Region.binds .any e = true → e.on < i) ∧ (∀ d, o.dst = some d → m[d]? = some true ∧ ∀ j, j < n → j ≠ i → dstOf ops j ≠ some d) ∧
      (∀ r ∈ (S.getD i kFree).reads, ∀ j, j < n → dstOf ops j = some r → j ≠ i ∧ Region.waitsFor .any ops i j = true)) := by
  unfold headB at h
  simp only [Bool.and_eq_true, decide_eq_true_eq] at h
  obtain ⟨⟨⟨⟨h1, h2⟩, h3⟩, h4⟩, h5⟩ := h
  refine ⟨h1, h2, h3, h5, ?_⟩
  intro i hi o ho
  have h6 := List.all_eq_true.1 h4 i (List.mem_range.2 hi)
  simp only [ho, Bool.and_eq_true] at h6
  obtain ⟨⟨h7, h8⟩, h9⟩ := h6
  refine ⟨fun e he hb => ?_, fun d hd => ?_, fun r hr j hj hdj => ?_⟩
  · obtain ⟨k, hk, rfl⟩ := Array.mem_iff_getElem.1 he
    have := (Array.all_eq_true.1 h7) k hk
    simpa [hb] using this
  · simp only [hd, Bool.and_eq_true, beq_iff_eq] at h8
    refine ⟨h8.1, fun j hj hne hdj => ?_⟩
    have := List.all_eq_true.1 h8.2 j (List.mem_range.2 hj)
    simp [hne, hdj] at this
  · have hrd : (S.map (·.reads)).getD i [] = (S.getD i kFree).reads := by
      simp only [List.getD_eq_getElem?_getD, List.getElem?_map]
      cases S[i]? <;> rfl
    rw [hrd] at h9
    have h10 := List.all_eq_true.1 h9 r hr
    have := List.all_eq_true.1 h10 j (List.mem_range.2 hj)
    simpa [hdj] using this

theorem region_inv_any (hk : Goes Kp) (hB : headB ops n m (S.map (·.reads)) = true)
    (hsz : ∀ i, i < n → ∀ V d, dstOf ops i = some d → d < (over a0 m V).tmps.size)
    (hstep : ∀ i, i < n → ∀ o, ops[i]? = some o → ∀ V w, Kp w0 w → (∀ j, j < n → Region.waitsFor .any ops i j = true → Told ops S j V w) →
      wpList P ops (stepPost Kp Q (over a0 m V) w o (fun v w' => (S.getD i kFree).tells ((S.getD i kFree).reads.map V) v w' ∧ Fresh fr i v w w')) [o] (over a0 m V) w)
    (hfin : ∀ V w, Kp w0 w → (∀ j, j < n → Told ops S j V w) → (∀ i j, i < n → j < n → fr.contains i = true → fr.contains j = true → i ≠ j → slotV ops i V ≠ slotV ops j V) → wpList P ops Q (ops.toList.drop n) (over a0 m V) w) :
    ∀ (c : Nat) (listed : Array Bool) (V : Vals) (w : World), ((List.range n).filter fun i => !listed.getD i false).length = c → HeadInv .any ops n listed → Kp w0 w →
      (∀ j, j < n → listed.getD j false = true → Told ops S j V w) → RegInv.Apart ops fr n listed V w → wpAny P .any ops Q (c + (ops.size - n)) listed (over a0 m V) w := by
  obtain ⟨hn, hs, hc, hq, hall⟩ := headB_spec hB
  intro c
  induction c with
  | zero =>
    intro listed V w hcount inv hb ht hap
    have hlist : ∀ j, j < n → listed.getD j false = true := fun j hj => by
      cases e : listed.getD j false with
      | true => rfl
      | false =>
        have : j ∈ (List.range n).filter fun i => !listed.getD i false := List.mem_filter.2 ⟨List.mem_range.2 hj, by rw [e]; rfl⟩
        have h0 := List.length_eq_zero_iff.1 hcount
        rw [h0] at this
        cases this
    have he : listed = ⟨List.replicate n true ++ List.replicate (ops.size - n) false⟩ := by
      apply Array.ext
      · rw [inv.size]; simp; omega
      · intro i h1 h2
        have hi : i < ops.size := by rw [← inv.size]; exact h1
        simp only [List.getElem_toArray]
        rw [List.getElem_append]
        split
        · rename_i hlt
          have := hlist i (by simpa using hlt)
          simpa [h1] using this
        · rename_i hge
          have := inv.tail i (by simpa using hge) hi
          simpa [h1] using this
    subst he
    rw [Nat.zero_add]
    have := wpAny_of_seq (md := .any) (Q' := Q) (ops.toList.drop n) n _ (over a0 m V) w (fun j => by simp [List.getElem?_drop]) (by rw [List.length_drop, Array.length_toList]; exact hq) (hfin V w hb (fun j hj => ht j hj (hlist j hj)) (fun i j hi hj h1 h2 hne => hap.2 i j hi hj h1 h2 (hlist i hi) (hlist j hj) hne))
    rwa [List.length_drop, Array.length_toList] at this
  | succ c ih =>
    intro listed V w hcount inv hb ht hap
    -- one that isn't listed yet
    have hex : ∃ i, i < n ∧ listed.getD i false = false := by
      have : (List.range n).filter (fun i => !listed.getD i false) ≠ [] := fun e => by rw [e] at hcount; cases hcount
      obtain ⟨i, hi⟩ := List.exists_mem_of_ne_nil _ this
      obtain ⟨h1, h2⟩ := List.mem_filter.1 hi
      exact ⟨i, List.mem_range.1 h1, by simpa using h2⟩
    have hleast : ∃ i, i < n ∧ listed.getD i false = false ∧ ∀ j, j < i → listed.getD j false = true := by
      obtain ⟨i, h1, h2⟩ := hex
      induction i using Nat.strongRecOn with
      | _ i ihi =>
        by_cases hj : ∃ j, j < i ∧ listed.getD j false = false
        · obtain ⟨j, hj1, hj2⟩ := hj
          exact ihi j hj1 (by omega) hj2
        · refine ⟨i, h1, h2, fun j hji => ?_⟩
          cases e : listed.getD j false with
          | true => rfl
          | false => exact absurd ⟨j, hji, e⟩ hj
    obtain ⟨i0, hi0, hl0, hmin⟩ := hleast
    have hi0s : i0 < ops.size := by omega
    have hready : i0 ∈ Region.ready .any ops listed := by
      refine mem_ready.2 ⟨getD_in (by rw [inv.size]; exact hi0s) hl0, ops[i0], by simp [hi0s], fun e he hbd => hmin e.on ?_⟩
      exact (hall i0 hi0 _ (by simp [hi0s])).1 e he hbd
    rw [show c + 1 + (ops.size - n) = (c + (ops.size - n)) + 1 by omega]
    refine ⟨fun h0 => absurd hready (by rw [h0]; exact List.not_mem_nil), fun i hi => ?_⟩
    have hin : i < n := by
      apply Nat.lt_of_not_le
      intro hle
      have hnlt : n < ops.size := by
        obtain ⟨_, o, ho, _⟩ := mem_ready.1 hi
        have := (Array.getElem?_eq_some_iff.1 ho).1
        omega
      exact tail_waits hs hc hnlt inv _ i0 rfl hi0 (getD_in (by rw [inv.size]; exact hi0s) hl0) i hle hi
    obtain ⟨hun, o, ho, hdeps⟩ := mem_ready.1 hi
    have hunf := getD_both hun
    have hd : dstOf ops i = o.dst := by unfold dstOf; rw [ho]; rfl
    have hwaits : ∀ j, j < n → Region.waitsFor .any ops i j = true → Told ops S j V w := fun j hj hw => by
      obtain ⟨o', ho', e, he, hbd, hon⟩ := Region.waitsFor_spec hw
      obtain rfl : o' = o := Option.some.inj (ho'.symm.trans ho)
      exact ht j hj (by rw [← hon]; exact hdeps e he hbd)
    refine wpOp_step (T := fun v w' => (S.getD i kFree).tells ((S.getD i kFree).reads.map V) v w' ∧ Fresh fr i v w w') ho (fun d hdd => hsz i hin V d (by rw [hd]; exact hdd)) (hstep i hin o ho V w hb hwaits) ?_
    rintro v w' hb' ⟨hT, hfr⟩
    rw [over_put a0 m V o.dst v (fun k hk => ((hall i hin o ho).2.1 k hk).1)]
    have hdist : ∀ j, j < n → j ≠ i → slotV ops j (upd V o.dst v) = slotV ops j V := fun j hj hne => by
      unfold slotV
      cases hdj : dstOf ops j with
      | none => rfl
      | some d =>
        cases hdo : o.dst with
        | none => rfl
        | some d' =>
          have h1 := ((hall i hin o ho).2.1 d' hdo).2 j hj hne
          rw [hdj] at h1
          have : ¬ d = d' := fun e => h1 (by rw [e])
          simp [upd, this]
    have hown : fr.contains i = true → slotV ops i (upd V o.dst v) = .pointer (some ⟨w.heap.size, 0, none⟩) ∧ w.heap.size < w'.heap.size := fun hc => by
      unfold Fresh at hfr
      rw [if_pos hc] at hfr
      refine ⟨?_, hfr.2⟩
      unfold slotV
      rw [hd]
      cases hdo : o.dst with
      | none => rw [hdo] at hfr; exact hfr.1
      | some d => rw [hdo] at hfr; simpa [upd] using hfr.1
    have hsame : ∀ j, j ≠ i → (listed.setIfInBounds i true).getD j false = true → listed.getD j false = true := fun j hne h => by rwa [getD_set_ne false (Ne.symm hne)] at h
    refine ih (listed.setIfInBounds i true) _ w' ?_ (inv.set hi hin) (hk.trans hb hb') ?_ ⟨fun j hj hfj hlj => ?_, fun j k hj hk hfj hfk hlj hlk hne => ?_⟩
    rotate_left 2
    · by_cases hji : j = i
      · subst hji; exact ⟨_, hown hfj⟩
      · obtain ⟨k, h1, h2⟩ := hap.1 j hj hfj (hsame j hji hlj)
        exact ⟨k, by rw [hdist j hj hji]; exact h1, Nat.lt_of_lt_of_le h2 (hk.size hb')⟩
    · by_cases hji : j = i
      · subst hji
        have hki : k ≠ j := Ne.symm hne
        obtain ⟨q, h1, h2⟩ := hap.1 k hk hfk (hsame k hki hlk)
        rw [(hown hfj).1, hdist k hk hki, h1]
        intro e
        injection e with e; injection e with e; injection e with e
        omega
      · by_cases hki : k = i
        · subst hki
          obtain ⟨q, h1, h2⟩ := hap.1 j hj hfj (hsame j hji hlj)
          rw [(hown hfk).1, hdist j hj hji, h1]
          intro e
          injection e with e; injection e with e; injection e with e
          omega
        · rw [hdist j hj hji, hdist k hk hki]
          exact hap.2 j k hj hk hfj hfk (hsame j hji hlj) (hsame k hki hlk) hne
    · -- one fewer
      have hnd : (List.range n).Nodup := List.nodup_range
      have hperm : ((List.range n).filter fun k => !listed.getD k false).Perm (i :: (List.range n).filter fun k => !(listed.setIfInBounds i true).getD k false) := by
        refine (List.perm_ext_iff_of_nodup (hnd.filter _) ?_).2 ?_
        · refine List.nodup_cons.2 ⟨?_, hnd.filter _⟩
          intro hm
          have := (List.mem_filter.1 hm).2
          have hsi : i < listed.size := by rw [inv.size]; omega
          simp [hsi] at this
        · intro k
          rw [List.mem_cons, List.mem_filter, List.mem_filter]
          by_cases hki : k = i
          · subst hki
            simp only [true_or, iff_true]
            exact ⟨List.mem_range.2 hin, by rw [hunf]; rfl⟩
          · rw [getD_set_ne false (Ne.symm hki)]
            simp [hki]
      have := hperm.length_eq
      rw [hcount] at this
      simpa using this.symm
    · intro j hj hlj
      have hstay : j ≠ i → Told ops S j V w' := fun hne => by
        rw [getD_set_ne false (Ne.symm hne)] at hlj
        exact (S.getD j kFree).mono _ _ _ _ (ht j hj hlj) hb'
      by_cases hji : j = i
      · subst hji
        unfold Told KSpec.holds
        rw [hd]
        have e1 : (S.getD j kFree).reads.map (upd V o.dst v) = (S.getD j kFree).reads.map V := by
          cases hdo : o.dst with
          | none => rfl
          | some d =>
            refine List.map_congr_left fun r hr => ?_
            have : ¬ r = d := fun e => by
              have := (hall j hj o ho).2.2 r hr j hj (by rw [hd, hdo, e])
              exact this.1 rfl
            simp [upd, this]
        rw [e1]
        cases hdo : o.dst with
        | none => rw [hdo] at hT; exact hT
        | some d => rw [hdo] at hT; simpa [upd] using hT
      · rw [← hd]
        refine told_upd (fun hn0 => ?_) (fun r hr hrd => ?_) V v w' (hstay hji)
        · intro e
          cases hdo : dstOf ops i with
          | none => exact hn0 hdo
          | some d =>
            rw [hdo] at e
            obtain ⟨oj, hoj⟩ : ∃ oj, ops[j]? = some oj := ⟨ops[j], by simp [show j < ops.size by omega]⟩
            have hdj : oj.dst = some d := by unfold dstOf at e; rw [hoj] at e; exact e
            exact ((hall j hj oj hoj).2.1 d hdj).2 i hin (Ne.symm hji) hdo
        · obtain ⟨oj, hoj⟩ : ∃ oj, ops[j]? = some oj := ⟨ops[j], by simp [show j < ops.size by omega]⟩
          have hw := ((hall j hj oj hoj).2.2 r hr i hin hrd).2
          obtain ⟨o', ho', e, he, hbd, hon⟩ := Region.waitsFor_spec hw
          rw [getD_set_ne false (Ne.symm hji)] at hlj
          have := inv.closed j o' ho' hlj e he hbd
          rw [hon, hunf] at this
          cases this

/-- The law. -/
theorem wp_region_inv (hk : Goes Kp) {id : Nat} {l : List Oper} {a : Act} {w : World} (fr : List Nat) (n : Nat) (m : List Bool) (S : List (KSpec Kp)) (hm : P.follows .mixedOrders = true) (hB : headB l.toArray n m (S.map (·.reads)) = true)
    (F : Vals → Act) (hF : ∀ V, over a m V = F V)
    (hsz : (List.range n).all (fun i => match dstOf l.toArray i with | none => true | some d => decide (d < a.tmps.size)) = true)
    (hstep : ∀ i, i < n → ∀ o, l.toArray[i]? = some o → ∀ V w', Kp w w' → (∀ j, j < n → Region.waitsFor .any l.toArray i j = true → Told l.toArray S j V w') →
      wpList P l.toArray (stepPost Kp Q (F V) w' o (fun v w'' => (S.getD i kFree).tells ((S.getD i kFree).reads.map V) v w'' ∧ Fresh fr i v w' w'')) [o] (F V) w')
    (hfin : ∀ V w', Kp w w' → (∀ j, j < n → Told l.toArray S j V w') → (∀ i j, i < n → j < n → fr.contains i = true → fr.contains j = true → i ≠ j → slotV l.toArray i V ≠ slotV l.toArray j V) → wpList P l.toArray Q (l.drop n) (F V) w') :
    (Code.region id l.toArray true).wp P Q a w := by
  have hlen : ∀ (m : List Bool) (V : Vals) (k : Nat) (x : List Value), (overL m V k x).length = x.length := by
    intro m V
    induction m with
    | nil => intro k x; rfl
    | cons b m ih =>
      intro k x
      cases x with
      | nil => cases b <;> rfl
      | cons y x => cases b <;> (show _ + 1 = _; rw [ih]; rfl)
  have H := region_inv_any hk (P := P) (Q := Q) (ops := l.toArray) (n := n) (m := m) (S := S) (fr := fr) (a0 := a) (w0 := w) hB
    (fun i hi V d hd => by
      have := List.all_eq_true.1 hsz i (List.mem_range.2 hi)
      rw [hd] at this
      have h2 : d < a.tmps.size := by simpa using this
      unfold over
      simp [hlen, h2])
    (fun i hi o ho V w' hb ht => by rw [hF]; exact hstep i hi o ho V w' hb ht) (fun V w' hb ht hap => by rw [hF]; simpa using hfin V w' hb ht hap)
  obtain ⟨hn, -⟩ := headB_spec hB
  have h0 := H n (Array.replicate l.toArray.size false) (fun k => a.tmps.getD k undef) w.drew
    (by
      have : (List.range n).filter (fun i => !(Array.replicate l.toArray.size false).getD i false) = List.range n := List.filter_eq_self.2 fun i _ => by rw [getD_replicate_false]; rfl
      rw [this, List.length_range])
    ⟨by simp, fun j oj _ hl => (by rw [getD_replicate_false] at hl; exact Bool.noConfusion hl), fun t _ ht => getD_in (by simpa using ht) (getD_replicate_false _ _)⟩
    (hk.drew _) (fun j _ hl => (by rw [getD_replicate_false] at hl; exact Bool.noConfusion hl)) ⟨fun j _ _ hl => (by rw [getD_replicate_false] at hl; exact Bool.noConfusion hl), fun j _ _ _ _ _ hl => (by rw [getD_replicate_false] at hl; exact Bool.noConfusion hl)⟩
  rw [over_id] at h0
  refine wp_region_any hm ?_
  rwa [Nat.add_sub_cancel' hn] at h0

/-- The obligations, one for each operation of the head. -/
def Steps (P : Program) (ops : Array Oper) (Q : Exit → Act → World → Prop) (S : List (KSpec Kp)) (fr : List Nat) (F : Vals → Act) (w : World) : Nat → List Oper → Prop
  | _, [] => True
  | i, o :: r => (∀ V w', Kp w w' → (∀ j, Region.waitsFor .any ops i j = true → Told ops S j V w') → ∀ K : Exit → Act → World → Prop,
      (∀ a' w'', a'.defers = (F V).defers → Kp w' w'' → (S.getD i kFree).tells ((S.getD i kFree).reads.map V) (slotAt o.dst a') w'' → Fresh fr i (slotAt o.dst a') w' w'' → K .normal a' w'') → (∀ e a w, e ≠ .normal → Q e a w → K e a w) →
      wpList P ops K [o] (F V) w') ∧ Steps P ops Q S fr F w (i + 1) r
theorem Steps.get {S : List (KSpec Kp)} {F : Vals → Act} {w : World} : ∀ (r : List Oper) (i : Nat), Steps P ops Q S fr F w i r → ∀ k o, r[k]? = some o → ∀ V w', Kp w w' → (∀ j, Region.waitsFor .any ops (i + k) j = true → Told ops S j V w') →
      wpList P ops (stepPost Kp Q (F V) w' o (fun v w'' => (S.getD (i + k) kFree).tells ((S.getD (i + k) kFree).reads.map V) v w'' ∧ Fresh fr (i + k) v w' w'')) [o] (F V) w' := by
  intro r
  induction r with
  | nil => intro i _ k o h; simp at h
  | cons o r ih =>
    intro i h k o' ho V w' hb ht
    cases k with
    | zero =>
      obtain rfl : o = o' := by simpa using ho
      exact h.1 V w' hb ht _ (fun a' w'' h1 h2 h3 h4 => ⟨h1, h2, h3, h4⟩) (fun e a w hne hq => by cases e <;> first | exact absurd rfl hne | exact hq)
    | succ k =>
      have e : i + 1 + k = i + (k + 1) := by omega
      have := ih (i + 1) h.2 k o' (by simpa using ho) V w' hb (by rw [e]; exact ht)
      rwa [e] at this

theorem wp_region_kept (hk : Goes Kp) {id : Nat} {l : List Oper} {a : Act} {w : World} (fr : List Nat) (n : Nat) (m : List Bool) (S : List (KSpec Kp)) (hm : P.follows .mixedOrders = true) (hB : headB l.toArray n m (S.map (·.reads)) = true)
    (hsz : (List.range n).all (fun i => match dstOf l.toArray i with | none => true | some d => decide (d < a.tmps.size)) = true)
    (h : ∀ F : Vals → Act, (∀ V, F V = over a m V) → Steps P l.toArray Q S fr F w 0 (l.take n) ∧ ∀ V w', Kp w w' → (∀ j, j < n → Told l.toArray S j V w') → (∀ i j, i < n → j < n → fr.contains i = true → fr.contains j = true → i ≠ j → slotV l.toArray i V ≠ slotV l.toArray j V) → wpList P l.toArray Q (l.drop n) (F V) w') :
    (Code.region id l.toArray true).wp P Q a w := by
  obtain ⟨h1, h2⟩ := h (over a m) (fun _ => rfl)
  obtain ⟨hn, -, -, -, hall⟩ := headB_spec hB
  refine wp_region_inv hk fr n m S hm hB (over a m) (fun _ => rfl) hsz (fun i hi o ho V w' hb ht => ?_) h2
  have := h1.get (l.take n) 0 i o (by rw [List.getElem?_take, if_pos hi]; simpa using ho) V w' hb (fun j hj => by
    rw [Nat.zero_add] at hj
    obtain ⟨o', ho', e, he, hbd, hon⟩ := Region.waitsFor_spec hj
    have := (hall i hi o' ho').1 e he hbd
    exact ht j (by omega) hj)
  rwa [Nat.zero_add] at this
end
end Go.Proofs.YtipoeigehabbmaaGreatDoor.RegKeep

/- A region that draws its order, told operation by operation, some of which change memory by an effect of their own (an append into room, a store). PRINTED by wip/genregsp.py. -/
set_option linter.unusedSimpArgs false
set_option linter.unusedVariables false
namespace Go.Proofs.YtipoeigehabbmaaGreatDoor.RegSp
open Go Go.RowKit Go.Proofs.YtipoeigehabbmaaGreatDoor.RegInv Go.Proofs.YtipoeigehabbmaaGreatDoor.RegKeep

/-- What an operation does to the world: it keeps all that was, or it has an effect of its own. -/
def Eff (sp : Nat → Option (World → World → Prop)) (i : Nat) (w w' : World) : Prop := match sp i with
  | none => Below w.heap.size w w'
  | some r => r w w'
/-- What is asked of the effects: what holds always, what holds till an operation runs, what is told of one stays under the others. -/
structure Fits (sp : Nat → Option (World → World → Prop)) (Com : World → Prop) (Pre : Nat → World → Prop) (S : List RSpec) (n : Nat) : Prop where
  com : ∀ w w', Com w → Below w.heap.size w w' → Com w'
  pre : ∀ j w w', Pre j w → Below w.heap.size w w' → Pre j w'
  comS : ∀ i r, i < n → sp i = some r → ∀ w w', Com w → Pre i w → r w w' → Com w'
  preS : ∀ i r, i < n → sp i = some r → ∀ j, j < n → j ≠ i → ∀ w w', Com w → Pre i w → r w w' → Pre j w → Pre j w'
  tellS : ∀ i r, i < n → sp i = some r → ∀ j, j < n → j ≠ i → ∀ w w', Com w → Pre i w → r w w' → ∀ l v, (S.getD j sFree).tells l v w → (S.getD j sFree).tells l v w'
section
variable {P : Program} {ops : Array Oper} {Q : Exit → Act → World → Prop}
variable {n : Nat} {m : List Bool} {S : List RSpec} {a0 : Act} {w0 : World} {sp : Nat → Option (World → World → Prop)} {Com : World → Prop} {Pre : Nat → World → Prop}
theorem region_sp_any (hF : Fits sp Com Pre S n) (hB : headB ops n m (S.map (·.reads)) = true)
    (hsz : ∀ i, i < n → ∀ V d, dstOf ops i = some d → d < (over a0 m V).tmps.size)
    (hstep : ∀ i, i < n → ∀ o, ops[i]? = some o → ∀ V w, Com w → Pre i w → (∀ j, j < n → Region.waitsFor .any ops i j = true → RegInv.Told ops S j V w) →
      wpList P ops (RegKeep.stepPost (Eff sp i) Q (over a0 m V) w o (fun v w' => (S.getD i sFree).tells ((S.getD i sFree).reads.map V) v w')) [o] (over a0 m V) w)
    (hfin : ∀ V w, Com w → (∀ j, j < n → RegInv.Told ops S j V w) → wpList P ops Q (ops.toList.drop n) (over a0 m V) w) :
    ∀ (c : Nat) (listed : Array Bool) (V : Vals) (w : World), ((List.range n).filter fun i => !listed.getD i false).length = c → HeadInv .any ops n listed → Com w → (∀ j, j < n → listed.getD j false = false → Pre j w) →
      (∀ j, j < n → listed.getD j false = true → RegInv.Told ops S j V w) → wpAny P .any ops Q (c + (ops.size - n)) listed (over a0 m V) w := by
  obtain ⟨hn, hs, hc, hq, hall⟩ := RegInv.headB_spec hB
  intro c
  induction c with
  | zero =>
    intro listed V w hcount inv hb hpre ht
    have hlist : ∀ j, j < n → listed.getD j false = true := fun j hj => by
      cases e : listed.getD j false with
      | true => rfl
      | false =>
        have : j ∈ (List.range n).filter fun i => !listed.getD i false := List.mem_filter.2 ⟨List.mem_range.2 hj, by rw [e]; rfl⟩
        have h0 := List.length_eq_zero_iff.1 hcount
        rw [h0] at this
        cases this
    have he : listed = ⟨List.replicate n true ++ List.replicate (ops.size - n) false⟩ := by
      apply Array.ext
      · rw [inv.size]; simp; omega
      · intro i h1 h2
        have hi : i < ops.size := by rw [← inv.size]; exact h1
        simp only [List.getElem_toArray]
        rw [List.getElem_append]
        split
        · rename_i hlt
          have := hlist i (by simpa using hlt)
          simpa [h1] using this
        · rename_i hge
          have := inv.tail i (by simpa using hge) hi
          simpa [h1] using this
    subst he
    rw [Nat.zero_add]
    have := wpAny_of_seq (md := .any) (Q' := Q) (ops.toList.drop n) n _ (over a0 m V) w (fun j => by simp [List.getElem?_drop]) (by rw [List.length_drop, Array.length_toList]; exact hq) (hfin V w hb (fun j hj => ht j hj (hlist j hj)))
    rwa [List.length_drop, Array.length_toList] at this
  | succ c ih =>
    intro listed V w hcount inv hb hpre ht
    -- one that isn't listed yet
    have hex : ∃ i, i < n ∧ listed.getD i false = false := by
      have : (List.range n).filter (fun i => !listed.getD i false) ≠ [] := fun e => by rw [e] at hcount; cases hcount
      obtain ⟨i, hi⟩ := List.exists_mem_of_ne_nil _ this
      obtain ⟨h1, h2⟩ := List.mem_filter.1 hi
      exact ⟨i, List.mem_range.1 h1, by simpa using h2⟩
    have hleast : ∃ i, i < n ∧ listed.getD i false = false ∧ ∀ j, j < i → listed.getD j false = true := by
      obtain ⟨i, h1, h2⟩ := hex
      induction i using Nat.strongRecOn with
      | _ i ihi =>
        by_cases hj : ∃ j, j < i ∧ listed.getD j false = false
        · obtain ⟨j, hj1, hj2⟩ := hj
          exact ihi j hj1 (by omega) hj2
        · refine ⟨i, h1, h2, fun j hji => ?_⟩
          cases e : listed.getD j false with
          | true => rfl
          | false => exact absurd ⟨j, hji, e⟩ hj
    obtain ⟨i0, hi0, hl0, hmin⟩ := hleast
    have hi0s : i0 < ops.size := by omega
    have hready : i0 ∈ Region.ready .any ops listed := by
      refine mem_ready.2 ⟨getD_in (by rw [inv.size]; exact hi0s) hl0, ops[i0], by simp [hi0s], fun e he hbd => hmin e.on ?_⟩
      exact (hall i0 hi0 _ (by simp [hi0s])).1 e he hbd
    rw [show c + 1 + (ops.size - n) = (c + (ops.size - n)) + 1 by omega]
    refine ⟨fun h0 => absurd hready (by rw [h0]; exact List.not_mem_nil), fun i hi => ?_⟩
    have hin : i < n := by
      apply Nat.lt_of_not_le
      intro hle
      have hnlt : n < ops.size := by
        obtain ⟨_, o, ho, _⟩ := mem_ready.1 hi
        have := (Array.getElem?_eq_some_iff.1 ho).1
        omega
      exact tail_waits hs hc hnlt inv _ i0 rfl hi0 (getD_in (by rw [inv.size]; exact hi0s) hl0) i hle hi
    obtain ⟨hun, o, ho, hdeps⟩ := mem_ready.1 hi
    have hunf := getD_both hun
    have hd : dstOf ops i = o.dst := by unfold dstOf; rw [ho]; rfl
    have hwaits : ∀ j, j < n → Region.waitsFor .any ops i j = true → RegInv.Told ops S j V w := fun j hj hw => by
      obtain ⟨o', ho', e, he, hbd, hon⟩ := Region.waitsFor_spec hw
      obtain rfl : o' = o := Option.some.inj (ho'.symm.trans ho)
      exact ht j hj (by rw [← hon]; exact hdeps e he hbd)
    refine RegKeep.wpOp_step (Kp := Eff sp i) (T := fun v w' => (S.getD i sFree).tells ((S.getD i sFree).reads.map V) v w') ho (fun d hdd => hsz i hin V d (by rw [hd]; exact hdd)) (hstep i hin o ho V w hb (hpre i hin hunf) hwaits) ?_
    rintro v w' hb' hT
    rw [over_put a0 m V o.dst v (fun k hk => ((hall i hin o ho).2.1 k hk).1)]
    have hpi := hpre i hin hunf
    have hcom : Com w' := by
      unfold Eff at hb'
      cases hs1 : sp i with
      | none => rw [hs1] at hb'; exact hF.com _ _ hb hb'
      | some r => rw [hs1] at hb'; exact hF.comS i r hin hs1 _ _ hb hpi hb'
    have hpre' : ∀ j, j < n → j ≠ i → Pre j w → Pre j w' := fun j hj hne hp => by
      unfold Eff at hb'
      cases hs1 : sp i with
      | none => rw [hs1] at hb'; exact hF.pre _ _ _ hp hb'
      | some r => rw [hs1] at hb'; exact hF.preS i r hin hs1 j hj hne _ _ hb hpi hb' hp
    have htell : ∀ j, j < n → j ≠ i → ∀ l v, (S.getD j sFree).tells l v w → (S.getD j sFree).tells l v w' := fun j hj hne l v ht => by
      unfold Eff at hb'
      cases hs1 : sp i with
      | none => rw [hs1] at hb'; exact (S.getD j sFree).mono _ _ _ _ ht hb'
      | some r => rw [hs1] at hb'; exact hF.tellS i r hin hs1 j hj hne _ _ hb hpi hb' l v ht
    have hdist : ∀ j, j < n → j ≠ i → slotV ops j (upd V o.dst v) = slotV ops j V := fun j hj hne => by
      unfold slotV
      cases hdj : dstOf ops j with
      | none => rfl
      | some d =>
        cases hdo : o.dst with
        | none => rfl
        | some d' =>
          have h1 := ((hall i hin o ho).2.1 d' hdo).2 j hj hne
          rw [hdj] at h1
          have : ¬ d = d' := fun e => h1 (by rw [e])
          simp [upd, this]
    have hsame : ∀ j, j ≠ i → (listed.setIfInBounds i true).getD j false = true → listed.getD j false = true := fun j hne h => by rwa [getD_set_ne false (Ne.symm hne)] at h
    refine ih (listed.setIfInBounds i true) _ w' ?_ (inv.set hi hin) hcom (fun j hj hlj => ?_) ?_
    rotate_left 1
    · have hne : j ≠ i := fun e => by
        subst e
        have hsi : j < listed.size := by rw [inv.size]; omega
        simp [hsi] at hlj
      rw [getD_set_ne false (Ne.symm hne)] at hlj
      exact hpre' j hj hne (hpre j hj hlj)
    rotate_left 1
    · -- one fewer
      have hnd : (List.range n).Nodup := List.nodup_range
      have hperm : ((List.range n).filter fun k => !listed.getD k false).Perm (i :: (List.range n).filter fun k => !(listed.setIfInBounds i true).getD k false) := by
        refine (List.perm_ext_iff_of_nodup (hnd.filter _) ?_).2 ?_
        · refine List.nodup_cons.2 ⟨?_, hnd.filter _⟩
          intro hm
          have := (List.mem_filter.1 hm).2
          have hsi : i < listed.size := by rw [inv.size]; omega
          simp [hsi] at this
        · intro k
          rw [List.mem_cons, List.mem_filter, List.mem_filter]
          by_cases hki : k = i
          · subst hki
            simp only [true_or, iff_true]
            exact ⟨List.mem_range.2 hin, by rw [hunf]; rfl⟩
          · rw [getD_set_ne false (Ne.symm hki)]
            simp [hki]
      have := hperm.length_eq
      rw [hcount] at this
      simpa using this.symm
    · intro j hj hlj
      have hstay : j ≠ i → RegInv.Told ops S j V w' := fun hne => by
        rw [getD_set_ne false (Ne.symm hne)] at hlj
        exact htell j hj hne _ _ (ht j hj hlj)
      by_cases hji : j = i
      · subst hji
        unfold RegInv.Told RSpec.holds
        rw [hd]
        have e1 : (S.getD j sFree).reads.map (upd V o.dst v) = (S.getD j sFree).reads.map V := by
          cases hdo : o.dst with
          | none => rfl
          | some d =>
            refine List.map_congr_left fun r hr => ?_
            have : ¬ r = d := fun e => by
              have := (hall j hj o ho).2.2 r hr j hj (by rw [hd, hdo, e])
              exact this.1 rfl
            simp [upd, this]
        rw [e1]
        cases hdo : o.dst with
        | none => rw [hdo] at hT; exact hT
        | some d => rw [hdo] at hT; simpa [upd] using hT
      · rw [← hd]
        refine RegInv.told_upd (fun hn0 => ?_) (fun r hr hrd => ?_) V v w' (hstay hji)
        · intro e
          cases hdo : dstOf ops i with
          | none => exact hn0 hdo
          | some d =>
            rw [hdo] at e
            obtain ⟨oj, hoj⟩ : ∃ oj, ops[j]? = some oj := ⟨ops[j], by simp [show j < ops.size by omega]⟩
            have hdj : oj.dst = some d := by unfold dstOf at e; rw [hoj] at e; exact e
            exact ((hall j hj oj hoj).2.1 d hdj).2 i hin (Ne.symm hji) hdo
        · obtain ⟨oj, hoj⟩ : ∃ oj, ops[j]? = some oj := ⟨ops[j], by simp [show j < ops.size by omega]⟩
          have hw := ((hall j hj oj hoj).2.2 r hr i hin hrd).2
          obtain ⟨o', ho', e, he, hbd, hon⟩ := Region.waitsFor_spec hw
          rw [getD_set_ne false (Ne.symm hji)] at hlj
          have := inv.closed j o' ho' hlj e he hbd
          rw [hon, hunf] at this
          cases this

/-- The law. -/
theorem wp_region_sp_inv (hK : Fits sp Com Pre S n) {id : Nat} {l : List Oper} {a : Act} {w : World} (hm : P.follows .mixedOrders = true) (hB : headB l.toArray n m (S.map (·.reads)) = true)
    (hcom : Com w.drew) (hpre : ∀ j, j < n → Pre j w.drew) (F : Vals → Act) (hF : ∀ V, over a m V = F V)
    (hsz : (List.range n).all (fun i => match dstOf l.toArray i with | none => true | some d => decide (d < a.tmps.size)) = true)
    (hstep : ∀ i, i < n → ∀ o, l.toArray[i]? = some o → ∀ V w', Com w' → Pre i w' → (∀ j, j < n → Region.waitsFor .any l.toArray i j = true → RegInv.Told l.toArray S j V w') →
      wpList P l.toArray (RegKeep.stepPost (Eff sp i) Q (F V) w' o (fun v w'' => (S.getD i sFree).tells ((S.getD i sFree).reads.map V) v w'')) [o] (F V) w')
    (hfin : ∀ V w', Com w' → (∀ j, j < n → RegInv.Told l.toArray S j V w') → wpList P l.toArray Q (l.drop n) (F V) w') :
    (Code.region id l.toArray true).wp P Q a w := by
  have hlen : ∀ (m : List Bool) (V : Vals) (k : Nat) (x : List Value), (overL m V k x).length = x.length := by
    intro m V
    induction m with
    | nil => intro k x; rfl
    | cons b m ih =>
      intro k x
      cases x with
      | nil => cases b <;> rfl
      | cons y x => cases b <;> (show _ + 1 = _; rw [ih]; rfl)
  have H := region_sp_any (P := P) (Q := Q) (ops := l.toArray) (n := n) (m := m) (S := S) (a0 := a) hK hB
    (fun i hi V d hd => by
      have := List.all_eq_true.1 hsz i (List.mem_range.2 hi)
      rw [hd] at this
      have h2 : d < a.tmps.size := by simpa using this
      unfold over
      simp [hlen, h2])
    (fun i hi o ho V w' hb hp ht => by rw [hF]; exact hstep i hi o ho V w' hb hp ht) (fun V w' hb ht => by rw [hF]; simpa using hfin V w' hb ht)
  obtain ⟨hn, -⟩ := RegInv.headB_spec hB
  have h0 := H n (Array.replicate l.toArray.size false) (fun k => a.tmps.getD k undef) w.drew
    (by
      have : (List.range n).filter (fun i => !(Array.replicate l.toArray.size false).getD i false) = List.range n := List.filter_eq_self.2 fun i _ => by rw [getD_replicate_false]; rfl
      rw [this, List.length_range])
    ⟨by simp, fun j oj _ hl => (by rw [getD_replicate_false] at hl; exact Bool.noConfusion hl), fun t _ ht => getD_in (by simpa using ht) (getD_replicate_false _ _)⟩
    hcom (fun j hj _ => hpre j hj) (fun j _ hl => (by rw [getD_replicate_false] at hl; exact Bool.noConfusion hl))
  rw [over_id] at h0
  refine wp_region_any hm ?_
  rwa [Nat.add_sub_cancel' hn] at h0

/-- The obligations, one for each operation of the head. -/
def Steps (P : Program) (ops : Array Oper) (Q : Exit → Act → World → Prop) (S : List RSpec) (sp : Nat → Option (World → World → Prop)) (Com : World → Prop) (Pre : Nat → World → Prop) (F : Vals → Act) : Nat → List Oper → Prop
  | _, [] => True
  | i, o :: r => (∀ V w', Com w' → Pre i w' → (∀ j, Region.waitsFor .any ops i j = true → RegInv.Told ops S j V w') → ∀ K : Exit → Act → World → Prop,
      (∀ a' w'', a'.defers = (F V).defers → Eff sp i w' w'' → (S.getD i sFree).tells ((S.getD i sFree).reads.map V) (slotAt o.dst a') w'' → K .normal a' w'') → (∀ e a w, e ≠ .normal → Q e a w → K e a w) →
      wpList P ops K [o] (F V) w') ∧ Steps P ops Q S sp Com Pre F (i + 1) r
theorem Steps.get {F : Vals → Act} : ∀ (r : List Oper) (i : Nat), Steps P ops Q S sp Com Pre F i r → ∀ k o, r[k]? = some o → ∀ V w', Com w' → Pre (i + k) w' → (∀ j, Region.waitsFor .any ops (i + k) j = true → RegInv.Told ops S j V w') →
      wpList P ops (RegKeep.stepPost (Eff sp (i + k)) Q (F V) w' o (fun v w'' => (S.getD (i + k) sFree).tells ((S.getD (i + k) sFree).reads.map V) v w'')) [o] (F V) w' := by
  intro r
  induction r with
  | nil => intro i _ k o h; simp at h
  | cons o r ih =>
    intro i h k o' ho V w' hb hp ht
    cases k with
    | zero =>
      obtain rfl : o = o' := by simpa using ho
      exact h.1 V w' hb hp ht _ (fun a' w'' h1 h2 h3 => ⟨h1, h2, h3⟩) (fun e a w hne hq => by cases e <;> first | exact absurd rfl hne | exact hq)
    | succ k =>
      have e : i + 1 + k = i + (k + 1) := by omega
      have := ih (i + 1) h.2 k o' (by simpa using ho) V w' hb (by rw [e]; exact hp) (by rw [e]; exact ht)
      rwa [e] at this

theorem wp_region_sp (sp : Nat → Option (World → World → Prop)) (Com : World → Prop) (Pre : Nat → World → Prop) {id : Nat} {l : List Oper} {a : Act} {w : World} (n : Nat) (m : List Bool) (S : List RSpec) (hK : Fits sp Com Pre S n) (hcom : Com w.drew) (hpre : ∀ j, j < n → Pre j w.drew)
    (hm : P.follows .mixedOrders = true) (hB : headB l.toArray n m (S.map (·.reads)) = true)
    (hsz : (List.range n).all (fun i => match dstOf l.toArray i with | none => true | some d => decide (d < a.tmps.size)) = true)
    (h : ∀ F : Vals → Act, (∀ V, F V = over a m V) → Steps P l.toArray Q S sp Com Pre F 0 (l.take n) ∧ ∀ V w', Com w' → (∀ j, j < n → RegInv.Told l.toArray S j V w') → wpList P l.toArray Q (l.drop n) (F V) w') :
    (Code.region id l.toArray true).wp P Q a w := by
  obtain ⟨h1, h2⟩ := h (over a m) (fun _ => rfl)
  obtain ⟨hn, -, -, -, hall⟩ := RegInv.headB_spec hB
  refine wp_region_sp_inv hK hm hB hcom hpre (over a m) (fun _ => rfl) hsz (fun i hi o ho V w' hb hp ht => ?_) h2
  have := h1.get (l.take n) 0 i o (by rw [List.getElem?_take, if_pos hi]; simpa using ho) V w' hb (by rw [Nat.zero_add]; exact hp) (fun j hj => by
    rw [Nat.zero_add] at hj
    obtain ⟨o', ho', e, he, hbd, hon⟩ := Region.waitsFor_spec hj
    have := (hall i hi o' ho').1 e he hbd
    exact ht j (by omega) hj)
  rwa [Nat.zero_add] at this
end
end Go.Proofs.YtipoeigehabbmaaGreatDoor.RegSp

/- The walk of order.From (layer 29): by whom any replies are. PRINTED by wip/genfrom.py. -/
set_option linter.unusedSimpArgs false
set_option linter.unusedVariables false
namespace Go.Proofs.YtipoeigehabbmaaGreatDoor.Mut
open Go.RowKit Go.Sort Go.Proofs.YtipoeigehabbmaaGreatDoor.Ord Go.Proofs.YtipoeigehabbmaaGreatDoor.RegInv Go.Proofs.YtipoeigehabbmaaGreatDoor.Spare
set_option linter.unusedSectionVars false
variable [Inhabited Lim]

def zI : List Value := [.int .i64 0]
abbrev RowI (W : World) (B : Nat) (v : Value) (n : Nat) (xs : List Value) : Prop := Spare W B 3 zI v n xs
/-- These two lie apart. -/
def OffV (u v : Value) : Prop := u.ownBlock = none ∨ u.ownBlock ≠ v.ownBlock
theorem OffV.symm {u v : Value} (h : OffV u v) : OffV v u := by
  unfold OffV at *
  cases hv : v.ownBlock with
  | none => exact Or.inl rfl
  | some g =>
    refine Or.inr fun e => ?_
    rcases h with h | h
    · rw [h] at e; cases e
    · exact h (by rw [hv]; exact e.symm)
def oneI (k7 : Nat) (i : Int) (v : Value) (W : World) : Prop := ∃ g, v = .slice (some ⟨g, 0, none⟩) 1 1 ∧ k7 < g ∧ g < W.heap.size ∧ W.cell? ⟨g, 0, none⟩ = some (.int .i64 i)
theorem oneI_below {k7 : Nat} {i : Int} {v : Value} {W W' : World} (h : oneI k7 i v W) (hb : RowKit.Below W.heap.size W W') : oneI k7 i v W' := by
  obtain ⟨g, h1, h2, h3, h4⟩ := h
  exact ⟨g, h1, h2, Nat.lt_of_lt_of_le h3 hb.size, (hb.cell (p := ⟨g, 0, none⟩) h3).trans h4⟩
theorem oneI_grown {k7 : Nat} {i : Int} {v u : Value} {W W' : World} (h : oneI k7 i v W) (hu : ∀ g, u.ownBlock = some g → g < k7) (hg : W.grownBy W' u.ownBlock) : oneI k7 i v W' := by
  obtain ⟨g, h1, h2, h3, h4⟩ := h
  exact ⟨g, h1, h2, Nat.lt_of_lt_of_le h3 hg.size, (World.cell?_of_block (a := ⟨g, 0, none⟩) (hg.block g h3 fun e => by have := hu g e.symm; omega)).trans h4⟩
section
variable (w : World) (k7 : Nat) (X : Ry) (u4 u5 : Value) (k : Nat) (xs4 xs5 : List Value)
def frSp : Nat → Option (World → World → Prop) := fun i => if i = 4 then some (fun a b => a.grownBy b u4.ownBlock) else if i = 9 then some (fun a b => a.grownBy b u5.ownBlock) else none
def frCom (W : World) : Prop := RowKit.Below w.heap.size w W ∧ BoxY W k7 X
def frPre (j : Nat) (W : World) : Prop := if j = 4 then RowI W w.heap.size u4 k xs4 else if j = 9 then RowI W w.heap.size u5 k xs5 else True
def frA (v : Value) (W : World) : Prop := RowI W w.heap.size v (k + 1) (xs4 ++ [.int .i64 X.from_]) ∧ OffV v u5
def frB (l : List Value) (v : Value) (W : World) : Prop := RowI W w.heap.size v (k + 1) (xs5 ++ [.int .i64 X.no]) ∧ OffV v u4 ∧ OffV v (l.getD 0 undef)
def frS : List RSpec := [sLit u4, sLit (.pointer (some ⟨k7, 0, none⟩)), sLit (.int .i64 X.from_), sOne (oneI k7 X.from_) (fun _ _ _ h hb => oneI_below h hb), sOne (frA w X u5 k xs4) (fun _ _ _ h hb => ⟨h.1.below hb, h.2⟩),
  sLit u5, sLit (.pointer (some ⟨k7, 1, none⟩)), sLit (.int .i64 X.no), sOne (oneI k7 X.no) (fun _ _ _ h hb => oneI_below h hb), ⟨[18], frB w X u4 k xs5, fun _ _ _ _ h hb => ⟨h.1.below hb, h.2⟩⟩]
variable {w k7 X u4 u5 k xs4 xs5}
theorem frFits (hw : w.heap.size ≤ k7) (h4 : ∀ g, u4.ownBlock = some g → w.heap.size ≤ g ∧ g < k7) (h5 : ∀ g, u5.ownBlock = some g → w.heap.size ≤ g ∧ g < k7) (h45 : OffV u4 u5) :
    RegSp.Fits (frSp u4 u5) (frCom w k7 X) (frPre w u4 u5 k xs4 xs5) (frS w k7 X u4 u5 k xs4 xs5) 10 := by
  have key : ∀ i r, frSp u4 u5 i = some r → (i = 4 ∧ r = fun a b => a.grownBy b u4.ownBlock) ∨ (i = 9 ∧ r = fun a b => a.grownBy b u5.ownBlock) := by
    intro i r h
    unfold frSp at h
    split at h
    · exact Or.inl ⟨by assumption, (Option.some.inj h).symm⟩
    · split at h
      · exact Or.inr ⟨by assumption, (Option.some.inj h).symm⟩
      · cases h
  have comG : ∀ (u : Value), (∀ g, u.ownBlock = some g → w.heap.size ≤ g ∧ g < k7) → ∀ W W', frCom w k7 X W → W.grownBy W' u.ownBlock → frCom w k7 X W' := fun u hu W W' h hg =>
    ⟨h.1.grown hg h.1.size (fun g e => (hu g e).1), (hg.block k7 h.2.lt fun e => by have := (hu k7 e.symm).2; omega).trans h.2⟩
  refine ⟨fun W W' h hb => ⟨below_then h.1 (Nat.le_refl _) hb, h.2.below hb⟩, fun j W W' h hb => ?_, fun i r hi hs W W' hc hp hr => ?_, fun i r hi hs j hj hne W W' hc hp hr hq => ?_, fun i r hi hs j hj hne W W' hc hp hr l v ht => ?_⟩
  · unfold frPre at *
    split
    · rename_i h1; rw [if_pos h1] at h; exact h.below hb
    · rename_i h1; rw [if_neg h1] at h
      split
      · rename_i h2; rw [if_pos h2] at h; exact h.below hb
      · trivial
  · rcases key i r hs with ⟨rfl, rfl⟩ | ⟨rfl, rfl⟩
    · exact comG u4 h4 W W' hc hr
    · exact comG u5 h5 W W' hc hr
  · rcases key i r hs with ⟨rfl, rfl⟩ | ⟨rfl, rfl⟩
    · unfold frPre at *
      rw [if_neg hne] at hq ⊢
      split
      · rename_i h1; rw [if_pos h1] at hq; exact hq.kept hr h45.symm
      · trivial
    · unfold frPre at *
      split
      · rename_i h1; rw [if_pos h1] at hq; exact hq.kept hr h45
      · trivial
  · rcases key i r hs with ⟨rfl, rfl⟩ | ⟨rfl, rfl⟩
    · match j, hj, hne with
      | 0, _, _ => exact ht
      | 1, _, _ => exact ht
      | 2, _, _ => exact ht
      | 3, _, _ => exact oneI_grown ht (fun g e => (h4 g e).2) hr
      | 5, _, _ => exact ht
      | 6, _, _ => exact ht
      | 7, _, _ => exact ht
      | 8, _, _ => exact oneI_grown ht (fun g e => (h4 g e).2) hr
      | 9, _, _ => exact ⟨ht.1.kept hr ht.2.1, ht.2⟩
      | 4, _, hne => exact absurd rfl hne
      | j + 10, hj, _ => omega
    · match j, hj, hne with
      | 0, _, _ => exact ht
      | 1, _, _ => exact ht
      | 2, _, _ => exact ht
      | 3, _, _ => exact oneI_grown ht (fun g e => (h5 g e).2) hr
      | 4, _, _ => exact ⟨ht.1.kept hr ht.2, ht.2⟩
      | 5, _, _ => exact ht
      | 6, _, _ => exact ht
      | 7, _, _ => exact ht
      | 8, _, _ => exact oneI_grown ht (fun g e => (h5 g e).2) hr
      | 9, _, hne => exact absurd rfl hne
      | j + 10, hj, _ => omega
end
theorem boxY_no {w : World} {k : Nat} {x : Ry} (h : BoxY w k x) : w.cell? ⟨k, 1, none⟩ = some (.int .i64 x.no) := (cells_at h 1).trans rfl
theorem info_int : (Tryz.prog.info? 3).map (fun i => (i.zero, i.size, i.bytes)) = some (some (.int .i64 0), 1, 8) := by kernel_rfl
theorem int_one (i : Int) : ∀ u ∈ [Value.int .i64 i], u.oneCell' = true := by
  intro u hu
  rw [List.mem_singleton.1 hu]
  rfl
theorem off_loc {w W : World} {v v' u : Value} (hl : SpareLoc W v v') (hv : OffV v u) (hu : ∀ g, u.ownBlock = some g → g < W.heap.size) : OffV v' u := by
  unfold OffV
  cases e : v'.ownBlock with
  | none => exact Or.inl rfl
  | some g =>
    refine Or.inr fun e2 => ?_
    rcases hl g e with h | h
    · rcases hv with h1 | h1
      · rw [h1] at h; cases h
      · exact h1 (by rw [h]; exact e2)
    · have := hu g e2.symm
      omega

set_option maxHeartbeats 8000000 in
set_option maxRecDepth 100000 in
theorem from_any (v : Value) (R : List Ry) (w : World) (hv : YRow w v R) (hn : R.length ≤ 1000) :
    Calls Tryz.prog 29 #[v] w fun e w' => ∃ va vb, e = .returned (.tuple #[va, vb]) ∧ RowI w' w.heap.size va R.length (R.map fun x => .int .i64 x.from_) ∧ RowI w' w.heap.size vb R.length (R.map fun x => .int .i64 x.no) ∧ RowKit.Below w.heap.size w w' := by
  obtain ⟨ao, cap, rfl, -, -⟩ := hv.form
  obtain ⟨n, hN⟩ : ∃ n, n = R.length := ⟨_, rfl⟩
  rw [← hN] at hv hn ⊢
  have HV := Lib.hid hv
  have HN := Lib.hid hN
  clear hv hN
  go_enter Tryz.func29, Tryz.ntmps29
  go_wp2_with fail
  go_loopw [4, 5, 10] (fun av bv iv wr => ∃ (k : Nat), k ≤ n ∧ iv = .int .i64 k ∧ Hid (RowI wr w.heap.size av k ((R.take k).map fun x => .int .i64 x.from_)) ∧ Hid (RowI wr w.heap.size bv k ((R.take k).map fun x => .int .i64 x.no)) ∧ Hid (OffV av bv) ∧ Hid (RowKit.Below w.heap.size w wr)) (fun _ _ iv _ => n - (intOf iv).toNat)
  case atStart => exact ⟨0, by omega, rfl, Lib.hid (Spare.nil _ _ _ _), Lib.hid (Spare.nil _ _ _ _), Lib.hid (Or.inl rfl), Lib.hid (Below.refl _ _)⟩
  case round =>
    obtain ⟨k, hk, rfl, hg4, hg5, hoff, hl⟩ := hrel
    by_cases hlt : k < n
    · have hkr : k < R.length := by have := HN.out; omega
      have hvw := HV.out.below hl.out
      obtain ⟨xb, xoff, hao, hbl, a0, a1, a2, a3, a4, a5, a6, a7⟩ := hvw.get hkr
      cases hao
      have hlie := hvw.con R[k] (List.getElem_mem hkr)
      have HTF := Lib.hid (show (R.take (k + 1)).map (fun x : Ry => Value.int .i64 x.from_) = (R.take k).map (fun x : Ry => Value.int .i64 x.from_) ++ [.int .i64 R[k].from_] by rw [List.take_add_one, List.getElem?_eq_getElem hkr, Option.toList_some, List.map_append]; rfl)
      have HTN := Lib.hid (show (R.take (k + 1)).map (fun x : Ry => Value.int .i64 x.no) = (R.take k).map (fun x : Ry => Value.int .i64 x.no) ++ [.int .i64 R[k].no] by rw [List.take_add_one, List.getElem?_eq_getElem hkr, Option.toList_some, List.map_append]; rfl)
      generalize R[k] = x at *
      obtain ⟨X, hX⟩ : ∃ X : Ry, X = x := ⟨_, rfl⟩
      have HXX := Lib.hid hX
      obtain ⟨W3, hW3⟩ : ∃ W, W = wr.alloc (.cells (enY x).toArray 81) := ⟨_, rfl⟩
      have hb3 : RowKit.Below wr.heap.size wr W3 := by rw [hW3]; exact (Below.refl _ _).alloc (Nat.le_refl _) _
      have HBX := Lib.hid (show BoxY W3 wr.heap.size X by rw [hW3, hX]; exact World.alloc_heap_new wr _)
      have HG4 := Lib.hid (hg4.out.below hb3)
      have HG5 := Lib.hid (hg5.out.below hb3)
      have H4 := Lib.hid (show ∀ g, u4.ownBlock = some g → w.heap.size ≤ g ∧ g < wr.heap.size from fun g e => hg4.out.own.lt g e)
      have H5 := Lib.hid (show ∀ g, u5.ownBlock = some g → w.heap.size ≤ g ∧ g < wr.heap.size from fun g e => hg5.out.own.lt g e)
      have HB3 := Lib.hid (below_then hl.out (Nat.le_refl _) hb3)
      have HWS := Lib.hid hl.out.size
      clear hX hb3 hvw
      obtain ⟨xf, xn, xa, xb', xd, xc, ⟨fp, fl, fw⟩⟩ := x
      obtain ⟨o1, n1, k1, e1⟩ := hlie.cells.slice
      obtain ⟨o2, n2, k2, e2⟩ := hlie.wipes.slice
      obtain ⟨o3, n3, k3', e3⟩ := hlie.sibs.slice
      simp only [] at e1 e2 e3
      subst e1 e2 e3
      unfold enY at hW3
      simp only [] at a0 a1 a2 a3 a4 a5 a6 a7 hW3 HTF HTN
      have HW3 := Lib.hid hW3
      clear hW3 hlie
      have j0 : (0 : Int) ≤ (k : Int) := by omega
      have j1 : (k : Int) < (n : Int) := by omega
      go_upto_region 5 with fail
      rw [← HW3.out]
      clear HW3 a0 a1 a2 a3 a4 a5 a6 a7
      obtain ⟨k7, hk7⟩ : ∃ k, k = wr.heap.size := ⟨_, rfl⟩
      rw [← hk7] at HBX H4 H5 HWS ⊢
      clear hk7
      obtain ⟨xs4, hx4⟩ : ∃ l, l = (R.take k).map fun x : Ry => Value.int .i64 x.from_ := ⟨_, rfl⟩
      obtain ⟨xs5, hx5⟩ : ∃ l, l = (R.take k).map fun x : Ry => Value.int .i64 x.no := ⟨_, rfl⟩
      rw [← hx4] at HG4 HTF
      rw [← hx5] at HG5 HTN
      clear hx4 hx5 hg4 hg5 hl
      refine RegSp.wp_region_sp (frSp u4 u5) (frCom w k7 X) (frPre w u4 u5 k xs4 xs5) 10 [false, false, false, false, false, false, false, false, false, false, false, false, false, false, true, true, true, true, true, true, true, true, true, true, false, false, false] (frS w k7 X u4 u5 k xs4 xs5) (frFits HWS.out H4.out H5.out hoff.out) ⟨HB3.out.drew, HBX.out⟩ (fun j hj => ?_) (by kernel_rfl) (by kernel_rfl) (by kernel_rfl) (fun F hF => ?_)
      · unfold frPre
        split
        · exact HG4.out.below (Below.refl _ _).drew
        · split
          · exact HG5.out.below (Below.refl _ _).drew
          · trivial
      simp only [over, overL, Nat.reduceAdd] at hF
      obtain rfl := funext hF
      clear hF
      refine ⟨⟨?_, ?_, ?_, ?_, ?_, ?_, ?_, ?_, ?_, ?_, trivial⟩, ?_⟩
      · intro V W hc hp hd K hK _
        clear hd
        go_wp2_with fail
        refine hK _ _ ?_ ?_ ?_
        · rfl
        · exact Below.refl _ _
        · exact rfl
      · intro V W hc hp hd K hK _
        clear hd
        go_wp2_with fail
        refine hK _ _ ?_ ?_ ?_
        · rfl
        · exact Below.refl _ _
        · exact rfl
      · intro V W hc hp hd K hK _
        have h1 : (V 15) = .pointer (some ⟨k7, 0, none⟩) := hd 1 (by kernel_rfl)
        clear hd
        have hbx := hc.2.cells
        have hno := boxY_no hc.2
        rw [HXX.out] at hbx hno
        obtain ⟨y0, -⟩ := hbx
        simp only [] at y0 hno
        go_wp2_with fail
        refine hK _ _ ?_ ?_ ?_
        · rfl
        · exact Below.refl _ _
        · exact (show Value.int .i64 xf = .int .i64 X.from_ by rw [HXX.out])
      · intro V W hc hp hd K hK _
        have h2 : (V 16) = .int .i64 X.from_ := hd 2 (by kernel_rfl)
        clear hd
        go_wp2_with fail
        refine hK _ _ ?_ ?_ ?_
        · rfl
        · exact (Below.refl _ _).alloc (Nat.le_refl _) _
        · exact ⟨W.heap.size, rfl, hc.2.lt, by simp, by rw [HXX.out]; go_simp⟩
      · intro V W hc hp hd K hK _
        have h0 : (V 14) = u4 := hd 0 (by kernel_rfl)
        have h3 : oneI k7 X.from_ (V 17) W := hd 3 (by kernel_rfl)
        clear hd
        obtain ⟨g, e1, g1, g2, g3⟩ := h3
        have HP := Lib.hid (show RowI W w.heap.size u4 k xs4 from hp)
        have HC := Lib.hid hc
        clear hp hc
        obtain ⟨i0, hi, hz0, hz1, hz2⟩ := info_parts info_int
        go_wp2_with (at_builtin; refine wpList_append_spare rfl (.tmp 14) (.tmp 17) 59 rfl w.heap.size 3 i0 (.int .i64 0) zI 8 Tryz.underlying59 hi hz0 rfl hz1 hz2 (by decide) u4 k xs4 (by first | exact h0 | rfl) HP.out ⟨g, 0, none⟩ 1 1 [.int .i64 X.from_] (by first | exact e1 | rfl) (Or.inl (by decide)) rfl (fun j u hj => by (have hj0 : j = 0 := by have := (List.getElem?_eq_some_iff.1 hj).1; simpa using this); subst hj0; simp at hj; subst hj; exact g3) (int_one _) (by unfold maxLen; omega) (by omega) HC.out.1.size ?_)
        intro v4 w4 hsp hgr hkp hloc
        have HR := Lib.hid hsp
        have HGR := Lib.hid hgr
        have HLC := Lib.hid hloc
        clear hsp hgr hkp hloc e1
        go_wp2_with fail
        refine hK _ _ ?_ ?_ ?_
        · rfl
        · exact HGR.out
        · exact ⟨HR.out, off_loc (w := W) HLC.out hoff.out (fun g e => Nat.lt_trans (H5.out g e).2 HC.out.2.lt)⟩
      · intro V W hc hp hd K hK _
        clear hd
        go_wp2_with fail
        refine hK _ _ ?_ ?_ ?_
        · rfl
        · exact Below.refl _ _
        · exact rfl
      · intro V W hc hp hd K hK _
        clear hd
        go_wp2_with fail
        refine hK _ _ ?_ ?_ ?_
        · rfl
        · exact Below.refl _ _
        · exact rfl
      · intro V W hc hp hd K hK _
        have h6 : (V 20) = .pointer (some ⟨k7, 1, none⟩) := hd 6 (by kernel_rfl)
        clear hd
        have hbx := hc.2.cells
        have hno := boxY_no hc.2
        rw [HXX.out] at hbx hno
        obtain ⟨y0, -⟩ := hbx
        simp only [] at y0 hno
        go_wp2_with fail
        refine hK _ _ ?_ ?_ ?_
        · rfl
        · exact Below.refl _ _
        · exact (show Value.int .i64 xn = .int .i64 X.no by rw [HXX.out])
      · intro V W hc hp hd K hK _
        have h7 : (V 21) = .int .i64 X.no := hd 7 (by kernel_rfl)
        clear hd
        go_wp2_with fail
        refine hK _ _ ?_ ?_ ?_
        · rfl
        · exact (Below.refl _ _).alloc (Nat.le_refl _) _
        · exact ⟨W.heap.size, rfl, hc.2.lt, by simp, by rw [HXX.out]; go_simp⟩
      · intro V W hc hp hd K hK _
        have h4 : frA w X u5 k xs4 (V 18) W := hd 4 (by kernel_rfl)
        have h5 : (V 19) = u5 := hd 5 (by kernel_rfl)
        have h8 : oneI k7 X.no (V 22) W := hd 8 (by kernel_rfl)
        clear hd
        have HA := Lib.hid h4
        clear h4
        obtain ⟨g, e1, g1, g2, g3⟩ := h8
        have HP := Lib.hid (show RowI W w.heap.size u5 k xs5 from hp)
        have HC := Lib.hid hc
        clear hp hc
        obtain ⟨i0, hi, hz0, hz1, hz2⟩ := info_parts info_int
        go_wp2_with (at_builtin; refine wpList_append_spare rfl (.tmp 19) (.tmp 22) 59 rfl w.heap.size 3 i0 (.int .i64 0) zI 8 Tryz.underlying59 hi hz0 rfl hz1 hz2 (by decide) u5 k xs5 (by first | exact h5 | rfl) HP.out ⟨g, 0, none⟩ 1 1 [.int .i64 X.no] (by first | exact e1 | rfl) (Or.inl (by decide)) rfl (fun j u hj => by (have hj0 : j = 0 := by have := (List.getElem?_eq_some_iff.1 hj).1; simpa using this); subst hj0; simp at hj; subst hj; exact g3) (int_one _) (by unfold maxLen; omega) (by omega) HC.out.1.size ?_)
        intro v4 w4 hsp hgr hkp hloc
        have HR := Lib.hid hsp
        have HGR := Lib.hid hgr
        have HLC := Lib.hid hloc
        clear hsp hgr hkp hloc e1
        go_wp2_with fail
        refine hK _ _ ?_ ?_ ?_
        · rfl
        · exact HGR.out
        · exact ⟨HR.out, off_loc (w := W) HLC.out hoff.out.symm (fun g e => Nat.lt_trans (H4.out g e).2 HC.out.2.lt), off_loc (w := W) HLC.out (show OffV u5 (V 18) from HA.out.2.symm) (fun g e => (HA.out.1.own.lt g e).2)⟩
      · intro V W hc hd
        have h4 : frA w X u5 k xs4 (V 18) W := hd 4 (by decide)
        have h9 : frB w X u4 k xs5 [V 18] (V 23) W := hd 9 (by decide)
        have HC := Lib.hid hc.1
        have HA4 := Lib.hid h4.1
        have HB4 := Lib.hid h9.1
        have HO := Lib.hid (show OffV (V 18) (V 23) from OffV.symm h9.2.2)
        clear hd hc h4 h9
        rw [HXX.out] at HA4 HB4
        simp only [List.drop_succ_cons, List.drop_zero]
        go_wp2_with fail
        go_roundw
        case rel => exact ⟨k + 1, by omega, by go_num, Lib.hid (by rw [HTF.out]; exact HA4.out), Lib.hid (by rw [HTN.out]; exact HB4.out), HO, HC⟩
        case measure => simp [intOf]; omega
    · obtain rfl : k = n := by omega
      have HE4 := Lib.hid (show RowI wr w.heap.size u4 k (R.map fun x => .int .i64 x.from_) by have h := hg4.out; rw [List.take_of_length_le (by have := HN.out; omega)] at h; exact h)
      have HE5 := Lib.hid (show RowI wr w.heap.size u5 k (R.map fun x => .int .i64 x.no) by have h := hg5.out; rw [List.take_of_length_le (by have := HN.out; omega)] at h; exact h)
      clear hg4 hg5
      go_wp2_with fail
      refine bodyPost_ret (v := .tuple #[u4, u5]) (by simp [results, Tryz.f29, go_sem]) rfl ?_
      exact ⟨_, _, rfl, HE4.out, HE5.out, hl.out⟩
end Go.Proofs.YtipoeigehabbmaaGreatDoor.Mut
