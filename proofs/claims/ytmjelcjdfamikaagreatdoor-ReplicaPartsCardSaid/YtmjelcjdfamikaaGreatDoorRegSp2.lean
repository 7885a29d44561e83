/- A region that draws its order, some of whose operations change memory: what an operation asks of the memory need not survive those that wait for it. PRINTED by wip/genregsp2.py. -/
import Derived.Test.YtmjelcjdfamikaaGreatDoorRegApp
set_option linter.unusedSimpArgs false
set_option linter.unusedVariables false
namespace Go.Proofs.YtmjelcjdfamikaaGreatDoor.RegKeep
open Go Go.RowKit Go.Proofs.YtmjelcjdfamikaaGreatDoor.RegInv

/-- What is asked of the preorder. -/
structure Goes (Kp : World → World → Prop) : Prop where
  drew : ∀ w, Kp w w.drew
  trans : ∀ {a b c}, Kp a b → Kp b c → Kp a c
  size : ∀ {a b}, Kp a b → a.heap.size ≤ b.heap.size
structure KSpec (Kp : World → World → Prop) where
  reads : List Nat
  tells : List Value → Value → World → Prop
  mono : ∀ l v w w', tells l v w → Kp w w' → tells l v w'
section
variable {Kp : World → World → Prop}
def kOne (t : Value → World → Prop) (h : ∀ v w w', t v w → Kp w w' → t v w') : KSpec Kp := ⟨[], fun _ v w => t v w, fun _ v w w' => h v w w'⟩
def kFree : KSpec Kp := ⟨[], fun _ _ _ => True, fun _ _ _ _ h _ => h⟩
def kLit (u : Value) : KSpec Kp := ⟨[], fun _ v _ => v = u, fun _ _ _ _ h _ => h⟩
def KSpec.holds (s : KSpec Kp) (d : Option Tmp) (V : Vals) (w : World) : Prop := s.tells (s.reads.map V) (match d with | some d => V d | none => undef) w
/-- What is asked behind an operation. -/
def stepPost (Kp : World → World → Prop) (Q : Exit → Act → World → Prop) (a : Act) (w : World) (o : Oper) (T : Value → World → Prop) : Exit → Act → World → Prop
  | .normal, a', w' => a'.defers = a.defers ∧ Kp w w' ∧ T (slotOf o a') w'
  | e, a', w' => Q e a' w'

theorem slot_put {o : Oper} {a : Act} {v : Value} (h : ∀ d, o.dst = some d → d < a.tmps.size) : slotOf o (a.put o.dst v) = match o.dst with | some _ => v | none => undef := by
  unfold slotOf
  cases hd : o.dst with
  | none => rfl
  | some d => simp [Act.put, h d hd]

variable {P : Program} {ops : Array Oper} {Q : Exit → Act → World → Prop}

theorem upon_step {o : Oper} {a : Act} {w0 : World} {T : Value → World → Prop} {K : Act → World → Prop} (hsz : ∀ d, o.dst = some d → d < a.tmps.size)
    (hK : ∀ v w', Kp w0 w' → T (match o.dst with | some _ => v | none => undef) w' → K (a.put o.dst v) w') (r : Result Next)
    (h : o.upon P a (wpList P ops (stepPost Kp Q a w0 o T) []) (stepPost Kp Q a w0 o T) r) : o.upon P a K Q r := by
  have key : ∀ v w', wpList P ops (stepPost Kp Q a w0 o T) [] (a.put o.dst v) w' → K (a.put o.dst v) w' := fun v w' hh => by
    have h3 : _ ∧ _ ∧ _ := hh
    exact hK v w' h3.2.1 (by rw [← slot_put hsz]; exact h3.2.2)
  have out : LetsOut (stepPost Kp Q a w0 o T) → LetsOut Q := fun ⟨a', w', hh⟩ => ⟨a', w', hh⟩
  cases r with
  | ok n w' =>
    cases n with
    | value v => exact key v w' h
    | skip => exact key undef w' h
    | defer d =>
      exfalso
      have h3 : _ ∧ _ ∧ _ := h
      have h4 := h3.1
      cases hd : o.dst <;> simp [Act.put, hd] at h4
    | enter f args =>
      refine Calls.mono (show Calls P f args w' _ from h) ?_
      intro e w'' he
      cases e with
      | returned v => exact key v w'' he
      | panicked c => exact he
      | outgrown => exact out he
    | row row args => exact Rows.mono (show Rows P row args w' _ from h) (fun v w'' he => key v w'' he)
    | _ => exact h
  | halt x w' => cases x <;> exact h

theorem wpOp_step {i : Nat} {o : Oper} {a : Act} {w : World} {T : Value → World → Prop} {K : Act → World → Prop} (ho : ops[i]? = some o) (hsz : ∀ d, o.dst = some d → d < a.tmps.size)
    (h : wpList P ops (stepPost Kp Q a w o T) [o] a w)
    (hK : ∀ v w', Kp w w' → T (match o.dst with | some _ => v | none => undef) w' → K (a.put o.dst v) w') : wpOp P ops Q i K a w := by
  unfold wpOp
  simp only [ho]
  unfold wpList at h
  split
  · rename_i hw
    rw [if_pos hw] at h
    rcases h with h | ⟨h1, a', w', h2⟩
    · exact Or.inl (upon_step hsz hK _ h)
    · exact Or.inr ⟨h1, a', w', h2⟩
  · rename_i hw
    rw [if_neg hw] at h
    have h3 : _ ∧ _ ∧ _ := h
    exact hK undef w h3.2.1 (by rw [← slot_put hsz]; exact h3.2.2)

variable {n : Nat} {m : List Bool} {S : List (KSpec Kp)} {fr : List Nat} {a0 : Act} {w0 : World}
/-- What is told of operation j. -/
def Told (ops : Array Oper) (S : List (KSpec Kp)) (j : Nat) (V : Vals) (w : World) : Prop := (S.getD j kFree).holds (dstOf ops j) V w

theorem told_upd {i j : Nat} (hne : dstOf ops i ≠ none → dstOf ops j ≠ dstOf ops i) (hr : ∀ r ∈ (S.getD j kFree).reads, dstOf ops i ≠ some r) (V : Vals) (v : Value) (w : World) (h : Told ops S j V w) : Told ops S j (upd V (dstOf ops i) v) w := by
  unfold Told KSpec.holds at *
  cases hi : dstOf ops i with
  | none => exact h
  | some d =>
    have e1 : (S.getD j kFree).reads.map (upd V (some d) v) = (S.getD j kFree).reads.map V := List.map_congr_left fun r hm => by
      have := hr r hm
      rw [hi] at this
      simp [upd, show ¬ r = d from fun e => this (by rw [e])]
    rw [e1]
    have hj := hne (by rw [hi]; exact fun e => by cases e)
    rw [hi] at hj
    cases hdj : dstOf ops j with
    | none => rw [hdj] at h; exact h
    | some k =>
      rw [hdj] at h hj
      have : ¬ k = d := fun e => hj (by rw [e])
      simpa [upd, this] using h

theorem headB_spec (h : headB ops n m (S.map (·.reads)) = true) :
    n ≤ ops.size ∧ Region.sinkB .any ops n = true ∧ Region.chainB .any ops n = true ∧ Region.seqB .any ops (ops.size - n) n ⟨List.replicate n true ++ List.replicate (ops.size - n) false⟩ = true ∧
    (∀ i, i < n → ∀ o, ops[i]? = some o → (∀ e ∈ o.after, Region.binds .any e = true → e.on < i) ∧ (∀ d, o.dst = some d → m[d]? = some true ∧ ∀ j, j < n → j ≠ i → dstOf ops j ≠ some d) ∧
      (∀ r ∈ (S.getD i kFree).reads, ∀ j, j < n → dstOf ops j = some r → j ≠ i ∧ Region.waitsFor .any ops i j = true)) := by
  unfold headB at h
  simp only [Bool.and_eq_true, decide_eq_true_eq] at h
  obtain ⟨⟨⟨⟨h1, h2⟩, h3⟩, h4⟩, h5⟩ := h
  refine ⟨h1, h2, h3, h5, ?_⟩
  intro i hi o ho
  have h6 := List.all_eq_true.1 h4 i (List.mem_range.2 hi)
  simp only [ho, Bool.and_eq_true] at h6
  obtain ⟨⟨h7, h8⟩, h9⟩ := h6
  refine ⟨fun e he hb => ?_, fun d hd => ?_, fun r hr j hj hdj => ?_⟩
  · obtain ⟨k, hk, rfl⟩ := Array.mem_iff_getElem.1 he
    have := (Array.all_eq_true.1 h7) k hk
    simpa [hb] using this
  · simp only [hd, Bool.and_eq_true, beq_iff_eq] at h8
    refine ⟨h8.1, fun j hj hne hdj => ?_⟩
    have := List.all_eq_true.1 h8.2 j (List.mem_range.2 hj)
    simp [hne, hdj] at this
  · have hrd : (S.map (·.reads)).getD i [] = (S.getD i kFree).reads := by
      simp only [List.getD_eq_getElem?_getD, List.getElem?_map]
      cases S[i]? <;> rfl
    rw [hrd] at h9
    have h10 := List.all_eq_true.1 h9 r hr
    have := List.all_eq_true.1 h10 j (List.mem_range.2 hj)
    simpa [hdj] using this

theorem region_inv_any (hk : Goes Kp) (hB : headB ops n m (S.map (·.reads)) = true)
    (hsz : ∀ i, i < n → ∀ V d, dstOf ops i = some d → d < (over a0 m V).tmps.size)
    (hstep : ∀ i, i < n → ∀ o, ops[i]? = some o → ∀ V w, Kp w0 w → (∀ j, j < n → Region.waitsFor .any ops i j = true → Told ops S j V w) →
      wpList P ops (stepPost Kp Q (over a0 m V) w o (fun v w' => (S.getD i kFree).tells ((S.getD i kFree).reads.map V) v w' ∧ Fresh fr i v w w')) [o] (over a0 m V) w)
    (hfin : ∀ V w, Kp w0 w → (∀ j, j < n → Told ops S j V w) → (∀ i j, i < n → j < n → fr.contains i = true → fr.contains j = true → i ≠ j → slotV ops i V ≠ slotV ops j V) → wpList P ops Q (ops.toList.drop n) (over a0 m V) w) :
    ∀ (c : Nat) (listed : Array Bool) (V : Vals) (w : World), ((List.range n).filter fun i => !listed.getD i false).length = c → HeadInv .any ops n listed → Kp w0 w →
      (∀ j, j < n → listed.getD j false = true → Told ops S j V w) → RegInv.Apart ops fr n listed V w → wpAny P .any ops Q (c + (ops.size - n)) listed (over a0 m V) w := by
  obtain ⟨hn, hs, hc, hq, hall⟩ := headB_spec hB
  intro c
  induction c with
  | zero =>
    intro listed V w hcount inv hb ht hap
    have hlist : ∀ j, j < n → listed.getD j false = true := fun j hj => by
      cases e : listed.getD j false with
      | true => rfl
      | false =>
        have : j ∈ (List.range n).filter fun i => !listed.getD i false := List.mem_filter.2 ⟨List.mem_range.2 hj, by rw [e]; rfl⟩
        have h0 := List.length_eq_zero_iff.1 hcount
        rw [h0] at this
        cases this
    have he : listed = ⟨List.replicate n true ++ List.replicate (ops.size - n) false⟩ := by
      apply Array.ext
      · rw [inv.size]; simp; omega
      · intro i h1 h2
        have hi : i < ops.size := by rw [← inv.size]; exact h1
        simp only [List.getElem_toArray]
        rw [List.getElem_append]
        split
        · rename_i hlt
          have := hlist i (by simpa using hlt)
          simpa [h1] using this
        · rename_i hge
          have := inv.tail i (by simpa using hge) hi
          simpa [h1] using this
    subst he
    rw [Nat.zero_add]
    have := wpAny_of_seq (md := .any) (Q' := Q) (ops.toList.drop n) n _ (over a0 m V) w (fun j => by simp [List.getElem?_drop]) (by rw [List.length_drop, Array.length_toList]; exact hq) (hfin V w hb (fun j hj => ht j hj (hlist j hj)) (fun i j hi hj h1 h2 hne => hap.2 i j hi hj h1 h2 (hlist i hi) (hlist j hj) hne))
    rwa [List.length_drop, Array.length_toList] at this
  | succ c ih =>
    intro listed V w hcount inv hb ht hap
    -- one that isn't listed yet
    have hex : ∃ i, i < n ∧ listed.getD i false = false := by
      have : (List.range n).filter (fun i => !listed.getD i false) ≠ [] := fun e => by rw [e] at hcount; cases hcount
      obtain ⟨i, hi⟩ := List.exists_mem_of_ne_nil _ this
      obtain ⟨h1, h2⟩ := List.mem_filter.1 hi
      exact ⟨i, List.mem_range.1 h1, by simpa using h2⟩
    have hleast : ∃ i, i < n ∧ listed.getD i false = false ∧ ∀ j, j < i → listed.getD j false = true := by
      obtain ⟨i, h1, h2⟩ := hex
      induction i using Nat.strongRecOn with
      | _ i ihi =>
        by_cases hj : ∃ j, j < i ∧ listed.getD j false = false
        · obtain ⟨j, hj1, hj2⟩ := hj
          exact ihi j hj1 (by omega) hj2
        · refine ⟨i, h1, h2, fun j hji => ?_⟩
          cases e : listed.getD j false with
          | true => rfl
          | false => exact absurd ⟨j, hji, e⟩ hj
    obtain ⟨i0, hi0, hl0, hmin⟩ := hleast
    have hi0s : i0 < ops.size := by omega
    have hready : i0 ∈ Region.ready .any ops listed := by
      refine mem_ready.2 ⟨getD_in (by rw [inv.size]; exact hi0s) hl0, ops[i0], by simp [hi0s], fun e he hbd => hmin e.on ?_⟩
      exact (hall i0 hi0 _ (by simp [hi0s])).1 e he hbd
    rw [show c + 1 + (ops.size - n) = (c + (ops.size - n)) + 1 by omega]
    refine ⟨fun h0 => absurd hready (by rw [h0]; exact List.not_mem_nil), fun i hi => ?_⟩
    have hin : i < n := by
      apply Nat.lt_of_not_le
      intro hle
      have hnlt : n < ops.size := by
        obtain ⟨_, o, ho, _⟩ := mem_ready.1 hi
        have := (Array.getElem?_eq_some_iff.1 ho).1
        omega
      exact tail_waits hs hc hnlt inv _ i0 rfl hi0 (getD_in (by rw [inv.size]; exact hi0s) hl0) i hle hi
    obtain ⟨hun, o, ho, hdeps⟩ := mem_ready.1 hi
    have hunf := getD_both hun
    have hd : dstOf ops i = o.dst := by unfold dstOf; rw [ho]; rfl
    have hwaits : ∀ j, j < n → Region.waitsFor .any ops i j = true → Told ops S j V w := fun j hj hw => by
      obtain ⟨o', ho', e, he, hbd, hon⟩ := Region.waitsFor_spec hw
      obtain rfl : o' = o := Option.some.inj (ho'.symm.trans ho)
      exact ht j hj (by rw [← hon]; exact hdeps e he hbd)
    refine wpOp_step (T := fun v w' => (S.getD i kFree).tells ((S.getD i kFree).reads.map V) v w' ∧ Fresh fr i v w w') ho (fun d hdd => hsz i hin V d (by rw [hd]; exact hdd)) (hstep i hin o ho V w hb hwaits) ?_
    rintro v w' hb' ⟨hT, hfr⟩
    rw [over_put a0 m V o.dst v (fun k hk => ((hall i hin o ho).2.1 k hk).1)]
    have hdist : ∀ j, j < n → j ≠ i → slotV ops j (upd V o.dst v) = slotV ops j V := fun j hj hne => by
      unfold slotV
      cases hdj : dstOf ops j with
      | none => rfl
      | some d =>
        cases hdo : o.dst with
        | none => rfl
        | some d' =>
          have h1 := ((hall i hin o ho).2.1 d' hdo).2 j hj hne
          rw [hdj] at h1
          have : ¬ d = d' := fun e => h1 (by rw [e])
          simp [upd, this]
    have hown : fr.contains i = true → slotV ops i (upd V o.dst v) = .pointer (some ⟨w.heap.size, 0, none⟩) ∧ w.heap.size < w'.heap.size := fun hc => by
      unfold Fresh at hfr
      rw [if_pos hc] at hfr
      refine ⟨?_, hfr.2⟩
      unfold slotV
      rw [hd]
      cases hdo : o.dst with
      | none => rw [hdo] at hfr; exact hfr.1
      | some d => rw [hdo] at hfr; simpa [upd] using hfr.1
    have hsame : ∀ j, j ≠ i → (listed.setIfInBounds i true).getD j false = true → listed.getD j false = true := fun j hne h => by rwa [getD_set_ne false (Ne.symm hne)] at h
    refine ih (listed.setIfInBounds i true) _ w' ?_ (inv.set hi hin) (hk.trans hb hb') ?_ ⟨fun j hj hfj hlj => ?_, fun j k hj hk hfj hfk hlj hlk hne => ?_⟩
    rotate_left 2
    · by_cases hji : j = i
      · subst hji; exact ⟨_, hown hfj⟩
      · obtain ⟨k, h1, h2⟩ := hap.1 j hj hfj (hsame j hji hlj)
        exact ⟨k, by rw [hdist j hj hji]; exact h1, Nat.lt_of_lt_of_le h2 (hk.size hb')⟩
    · by_cases hji : j = i
      · subst hji
        have hki : k ≠ j := Ne.symm hne
        obtain ⟨q, h1, h2⟩ := hap.1 k hk hfk (hsame k hki hlk)
        rw [(hown hfj).1, hdist k hk hki, h1]
        intro e
        injection e with e; injection e with e; injection e with e
        omega
      · by_cases hki : k = i
        · subst hki
          obtain ⟨q, h1, h2⟩ := hap.1 j hj hfj (hsame j hji hlj)
          rw [(hown hfk).1, hdist j hj hji, h1]
          intro e
          injection e with e; injection e with e; injection e with e
          omega
        · rw [hdist j hj hji, hdist k hk hki]
          exact hap.2 j k hj hk hfj hfk (hsame j hji hlj) (hsame k hki hlk) hne
    · -- one fewer
      have hnd : (List.range n).Nodup := List.nodup_range
      have hperm : ((List.range n).filter fun k => !listed.getD k false).Perm (i :: (List.range n).filter fun k => !(listed.setIfInBounds i true).getD k false) := by
        refine (List.perm_ext_iff_of_nodup (hnd.filter _) ?_).2 ?_
        · refine List.nodup_cons.2 ⟨?_, hnd.filter _⟩
          intro hm
          have := (List.mem_filter.1 hm).2
          have hsi : i < listed.size := by rw [inv.size]; omega
          simp [hsi] at this
        · intro k
          rw [List.mem_cons, List.mem_filter, List.mem_filter]
          by_cases hki : k = i
          · subst hki
            simp only [true_or, iff_true]
            exact ⟨List.mem_range.2 hin, by rw [hunf]; rfl⟩
          · rw [getD_set_ne false (Ne.symm hki)]
            simp [hki]
      have := hperm.length_eq
      rw [hcount] at this
      simpa using this.symm
    · intro j hj hlj
      have hstay : j ≠ i → Told ops S j V w' := fun hne => by
        rw [getD_set_ne false (Ne.symm hne)] at hlj
        exact (S.getD j kFree).mono _ _ _ _ (ht j hj hlj) hb'
      by_cases hji : j = i
      · subst hji
        unfold Told KSpec.holds
        rw [hd]
        have e1 : (S.getD j kFree).reads.map (upd V o.dst v) = (S.getD j kFree).reads.map V := by
          cases hdo : o.dst with
          | none => rfl
          | some d =>
            refine List.map_congr_left fun r hr => ?_
            have : ¬ r = d := fun e => by
              have := (hall j hj o ho).2.2 r hr j hj (by rw [hd, hdo, e])
              exact this.1 rfl
            simp [upd, this]
        rw [e1]
        cases hdo : o.dst with
        | none => rw [hdo] at hT; exact hT
        | some d => rw [hdo] at hT; simpa [upd] using hT
      · rw [← hd]
        refine told_upd (fun hn0 => ?_) (fun r hr hrd => ?_) V v w' (hstay hji)
        · intro e
          cases hdo : dstOf ops i with
          | none => exact hn0 hdo
          | some d =>
            rw [hdo] at e
            obtain ⟨oj, hoj⟩ : ∃ oj, ops[j]? = some oj := ⟨ops[j], by simp [show j < ops.size by omega]⟩
            have hdj : oj.dst = some d := by unfold dstOf at e; rw [hoj] at e; exact e
            exact ((hall j hj oj hoj).2.1 d hdj).2 i hin (Ne.symm hji) hdo
        · obtain ⟨oj, hoj⟩ : ∃ oj, ops[j]? = some oj := ⟨ops[j], by simp [show j < ops.size by omega]⟩
          have hw := ((hall j hj oj hoj).2.2 r hr i hin hrd).2
          obtain ⟨o', ho', e, he, hbd, hon⟩ := Region.waitsFor_spec hw
          rw [getD_set_ne false (Ne.symm hji)] at hlj
          have := inv.closed j o' ho' hlj e he hbd
          rw [hon, hunf] at this
          cases this

/-- The law. -/
theorem wp_region_inv (hk : Goes Kp) {id : Nat} {l : List Oper} {a : Act} {w : World} (fr : List Nat) (n : Nat) (m : List Bool) (S : List (KSpec Kp)) (hm : P.follows .mixedOrders = true) (hB : headB l.toArray n m (S.map (·.reads)) = true)
    (F : Vals → Act) (hF : ∀ V, over a m V = F V)
    (hsz : (List.range n).all (fun i => match dstOf l.toArray i with | none => true | some d => decide (d < a.tmps.size)) = true)
    (hstep : ∀ i, i < n → ∀ o, l.toArray[i]? = some o → ∀ V w', Kp w w' → (∀ j, j < n → Region.waitsFor .any l.toArray i j = true → Told l.toArray S j V w') →
      wpList P l.toArray (stepPost Kp Q (F V) w' o (fun v w'' => (S.getD i kFree).tells ((S.getD i kFree).reads.map V) v w'' ∧ Fresh fr i v w' w'')) [o] (F V) w')
    (hfin : ∀ V w', Kp w w' → (∀ j, j < n → Told l.toArray S j V w') → (∀ i j, i < n → j < n → fr.contains i = true → fr.contains j = true → i ≠ j → slotV l.toArray i V ≠ slotV l.toArray j V) → wpList P l.toArray Q (l.drop n) (F V) w') :
    (Code.region id l.toArray true).wp P Q a w := by
  have hlen : ∀ (m : List Bool) (V : Vals) (k : Nat) (x : List Value), (overL m V k x).length = x.length := by
    intro m V
    induction m with
    | nil => intro k x; rfl
    | cons b m ih =>
      intro k x
      cases x with
      | nil => cases b <;> rfl
      | cons y x => cases b <;> (show _ + 1 = _; rw [ih]; rfl)
  have H := region_inv_any hk (P := P) (Q := Q) (ops := l.toArray) (n := n) (m := m) (S := S) (fr := fr) (a0 := a) (w0 := w) hB
    (fun i hi V d hd => by
      have := List.all_eq_true.1 hsz i (List.mem_range.2 hi)
      rw [hd] at this
      have h2 : d < a.tmps.size := by simpa using this
      unfold over
      simp [hlen, h2])
    (fun i hi o ho V w' hb ht => by rw [hF]; exact hstep i hi o ho V w' hb ht) (fun V w' hb ht hap => by rw [hF]; simpa using hfin V w' hb ht hap)
  obtain ⟨hn, -⟩ := headB_spec hB
  have h0 := H n (Array.replicate l.toArray.size false) (fun k => a.tmps.getD k undef) w.drew
    (by
      have : (List.range n).filter (fun i => !(Array.replicate l.toArray.size false).getD i false) = List.range n := List.filter_eq_self.2 fun i _ => by rw [getD_replicate_false]; rfl
      rw [this, List.length_range])
    ⟨by simp, fun j oj _ hl => (by rw [getD_replicate_false] at hl; exact Bool.noConfusion hl), fun t _ ht => getD_in (by simpa using ht) (getD_replicate_false _ _)⟩
    (hk.drew _) (fun j _ hl => (by rw [getD_replicate_false] at hl; exact Bool.noConfusion hl)) ⟨fun j _ _ hl => (by rw [getD_replicate_false] at hl; exact Bool.noConfusion hl), fun j _ _ _ _ _ hl => (by rw [getD_replicate_false] at hl; exact Bool.noConfusion hl)⟩
  rw [over_id] at h0
  refine wp_region_any hm ?_
  rwa [Nat.add_sub_cancel' hn] at h0

/-- The obligations, one for each operation of the head. -/
def Steps (P : Program) (ops : Array Oper) (Q : Exit → Act → World → Prop) (S : List (KSpec Kp)) (fr : List Nat) (F : Vals → Act) (w : World) : Nat → List Oper → Prop
  | _, [] => True
  | i, o :: r => (∀ V w', Kp w w' → (∀ j, Region.waitsFor .any ops i j = true → Told ops S j V w') → ∀ K : Exit → Act → World → Prop,
      (∀ a' w'', a'.defers = (F V).defers → Kp w' w'' → (S.getD i kFree).tells ((S.getD i kFree).reads.map V) (slotAt o.dst a') w'' → Fresh fr i (slotAt o.dst a') w' w'' → K .normal a' w'') → (∀ e a w, e ≠ .normal → Q e a w → K e a w) →
      wpList P ops K [o] (F V) w') ∧ Steps P ops Q S fr F w (i + 1) r
theorem Steps.get {S : List (KSpec Kp)} {F : Vals → Act} {w : World} : ∀ (r : List Oper) (i : Nat), Steps P ops Q S fr F w i r → ∀ k o, r[k]? = some o → ∀ V w', Kp w w' → (∀ j, Region.waitsFor .any ops (i + k) j = true → Told ops S j V w') →
      wpList P ops (stepPost Kp Q (F V) w' o (fun v w'' => (S.getD (i + k) kFree).tells ((S.getD (i + k) kFree).reads.map V) v w'' ∧ Fresh fr (i + k) v w' w'')) [o] (F V) w' := by
  intro r
  induction r with
  | nil => intro i _ k o h; simp at h
  | cons o r ih =>
    intro i h k o' ho V w' hb ht
    cases k with
    | zero =>
      obtain rfl : o = o' := by simpa using ho
      exact h.1 V w' hb ht _ (fun a' w'' h1 h2 h3 h4 => ⟨h1, h2, h3, h4⟩) (fun e a w hne hq => by cases e <;> first | exact absurd rfl hne | exact hq)
    | succ k =>
      have e : i + 1 + k = i + (k + 1) := by omega
      have := ih (i + 1) h.2 k o' (by simpa using ho) V w' hb (by rw [e]; exact ht)
      rwa [e] at this

theorem wp_region_kept (hk : Goes Kp) {id : Nat} {l : List Oper} {a : Act} {w : World} (fr : List Nat) (n : Nat) (m : List Bool) (S : List (KSpec Kp)) (hm : P.follows .mixedOrders = true) (hB : headB l.toArray n m (S.map (·.reads)) = true)
    (hsz : (List.range n).all (fun i => match dstOf l.toArray i with | none => true | some d => decide (d < a.tmps.size)) = true)
    (h : ∀ F : Vals → Act, (∀ V, F V = over a m V) → Steps P l.toArray Q S fr F w 0 (l.take n) ∧ ∀ V w', Kp w w' → (∀ j, j < n → Told l.toArray S j V w') → (∀ i j, i < n → j < n → fr.contains i = true → fr.contains j = true → i ≠ j → slotV l.toArray i V ≠ slotV l.toArray j V) → wpList P l.toArray Q (l.drop n) (F V) w') :
    (Code.region id l.toArray true).wp P Q a w := by
  obtain ⟨h1, h2⟩ := h (over a m) (fun _ => rfl)
  obtain ⟨hn, -, -, -, hall⟩ := headB_spec hB
  refine wp_region_inv hk fr n m S hm hB (over a m) (fun _ => rfl) hsz (fun i hi o ho V w' hb ht => ?_) h2
  have := h1.get (l.take n) 0 i o (by rw [List.getElem?_take, if_pos hi]; simpa using ho) V w' hb (fun j hj => by
    rw [Nat.zero_add] at hj
    obtain ⟨o', ho', e, he, hbd, hon⟩ := Region.waitsFor_spec hj
    have := (hall i hi o' ho').1 e he hbd
    exact ht j (by omega) hj)
  rwa [Nat.zero_add] at this
end
end Go.Proofs.YtmjelcjdfamikaaGreatDoor.RegKeep

/- A region that draws its order, told operation by operation, some of which change memory by an effect of their own (an append into room, a store). PRINTED by wip/genregsp.py. -/
set_option linter.unusedSimpArgs false
set_option linter.unusedVariables false
namespace Go.Proofs.YtmjelcjdfamikaaGreatDoor.RegSp
open Go Go.RowKit Go.Proofs.YtmjelcjdfamikaaGreatDoor.RegInv Go.Proofs.YtmjelcjdfamikaaGreatDoor.RegKeep

/-- What an operation does to the world: it keeps all that was, or it has an effect of its own. -/
def Eff (sp : Nat → Option (World → World → Prop)) (i : Nat) (w w' : World) : Prop := match sp i with
  | none => Below w.heap.size w w'
  | some r => r w w'
/-- What is asked of the effects: what holds always, what holds till an operation runs, what is told of one stays under the others. -/
structure Fits (aw : Nat → Nat → Bool) (sp : Nat → Option (World → World → Prop)) (Com : World → Prop) (Pre : Nat → World → Prop) (S : List RSpec) (n : Nat) : Prop where
  com : ∀ w w', Com w → Below w.heap.size w w' → Com w'
  pre : ∀ j w w', Pre j w → Below w.heap.size w w' → Pre j w'
  comS : ∀ i r, i < n → sp i = some r → ∀ w w', Com w → Pre i w → r w w' → Com w'
  preS : ∀ i r, i < n → sp i = some r → ∀ j, j < n → j ≠ i → aw i j = false → ∀ w w', Com w → Pre i w → r w w' → Pre j w → Pre j w'
  tellS : ∀ i r, i < n → sp i = some r → ∀ j, j < n → j ≠ i → ∀ w w', Com w → Pre i w → r w w' → ∀ l v, (S.getD j sFree).tells l v w → (S.getD j sFree).tells l v w'
section
variable {P : Program} {ops : Array Oper} {Q : Exit → Act → World → Prop}
variable {n : Nat} {m : List Bool} {S : List RSpec} {a0 : Act} {w0 : World} {sp : Nat → Option (World → World → Prop)} {Com : World → Prop} {Pre : Nat → World → Prop}
theorem region_sp_any {aw : Nat → Nat → Bool} (hF : Fits aw sp Com Pre S n) (hB : headB ops n m (S.map (·.reads)) = true) (haw : ∀ i j, i < n → j < n → aw i j = true → Region.waitsFor .any ops i j = true)
    (hsz : ∀ i, i < n → ∀ V d, dstOf ops i = some d → d < (over a0 m V).tmps.size)
    (hstep : ∀ i, i < n → ∀ o, ops[i]? = some o → ∀ V w, Com w → Pre i w → (∀ j, j < n → Region.waitsFor .any ops i j = true → RegInv.Told ops S j V w) →
      wpList P ops (RegKeep.stepPost (Eff sp i) Q (over a0 m V) w o (fun v w' => (S.getD i sFree).tells ((S.getD i sFree).reads.map V) v w')) [o] (over a0 m V) w)
    (hfin : ∀ V w, Com w → (∀ j, j < n → RegInv.Told ops S j V w) → wpList P ops Q (ops.toList.drop n) (over a0 m V) w) :
    ∀ (c : Nat) (listed : Array Bool) (V : Vals) (w : World), ((List.range n).filter fun i => !listed.getD i false).length = c → HeadInv .any ops n listed → Com w → (∀ j, j < n → listed.getD j false = false → Pre j w) →
      (∀ j, j < n → listed.getD j false = true → RegInv.Told ops S j V w) → wpAny P .any ops Q (c + (ops.size - n)) listed (over a0 m V) w := by
  obtain ⟨hn, hs, hc, hq, hall⟩ := RegInv.headB_spec hB
  intro c
  induction c with
  | zero =>
    intro listed V w hcount inv hb hpre ht
    have hlist : ∀ j, j < n → listed.getD j false = true := fun j hj => by
      cases e : listed.getD j false with
      | true => rfl
      | false =>
        have : j ∈ (List.range n).filter fun i => !listed.getD i false := List.mem_filter.2 ⟨List.mem_range.2 hj, by rw [e]; rfl⟩
        have h0 := List.length_eq_zero_iff.1 hcount
        rw [h0] at this
        cases this
    have he : listed = ⟨List.replicate n true ++ List.replicate (ops.size - n) false⟩ := by
      apply Array.ext
      · rw [inv.size]; simp; omega
      · intro i h1 h2
        have hi : i < ops.size := by rw [← inv.size]; exact h1
        simp only [List.getElem_toArray]
        rw [List.getElem_append]
        split
        · rename_i hlt
          have := hlist i (by simpa using hlt)
          simpa [h1] using this
        · rename_i hge
          have := inv.tail i (by simpa using hge) hi
          simpa [h1] using this
    subst he
    rw [Nat.zero_add]
    have := wpAny_of_seq (md := .any) (Q' := Q) (ops.toList.drop n) n _ (over a0 m V) w (fun j => by simp [List.getElem?_drop]) (by rw [List.length_drop, Array.length_toList]; exact hq) (hfin V w hb (fun j hj => ht j hj (hlist j hj)))
    rwa [List.length_drop, Array.length_toList] at this
  | succ c ih =>
    intro listed V w hcount inv hb hpre ht
    -- one that isn't listed yet
    have hex : ∃ i, i < n ∧ listed.getD i false = false := by
      have : (List.range n).filter (fun i => !listed.getD i false) ≠ [] := fun e => by rw [e] at hcount; cases hcount
      obtain ⟨i, hi⟩ := List.exists_mem_of_ne_nil _ this
      obtain ⟨h1, h2⟩ := List.mem_filter.1 hi
      exact ⟨i, List.mem_range.1 h1, by simpa using h2⟩
    have hleast : ∃ i, i < n ∧ listed.getD i false = false ∧ ∀ j, j < i → listed.getD j false = true := by
      obtain ⟨i, h1, h2⟩ := hex
      induction i using Nat.strongRecOn with
      | _ i ihi =>
        by_cases hj : ∃ j, j < i ∧ listed.getD j false = false
        · obtain ⟨j, hj1, hj2⟩ := hj
          exact ihi j hj1 (by omega) hj2
        · refine ⟨i, h1, h2, fun j hji => ?_⟩
          cases e : listed.getD j false with
          | true => rfl
          | false => exact absurd ⟨j, hji, e⟩ hj
    obtain ⟨i0, hi0, hl0, hmin⟩ := hleast
    have hi0s : i0 < ops.size := by omega
    have hready : i0 ∈ Region.ready .any ops listed := by
      refine mem_ready.2 ⟨getD_in (by rw [inv.size]; exact hi0s) hl0, ops[i0], by simp [hi0s], fun e he hbd => hmin e.on ?_⟩
      exact (hall i0 hi0 _ (by simp [hi0s])).1 e he hbd
    rw [show c + 1 + (ops.size - n) = (c + (ops.size - n)) + 1 by omega]
    refine ⟨fun h0 => absurd hready (by rw [h0]; exact List.not_mem_nil), fun i hi => ?_⟩
    have hin : i < n := by
      apply Nat.lt_of_not_le
      intro hle
      have hnlt : n < ops.size := by
        obtain ⟨_, o, ho, _⟩ := mem_ready.1 hi
        have := (Array.getElem?_eq_some_iff.1 ho).1
        omega
      exact tail_waits hs hc hnlt inv _ i0 rfl hi0 (getD_in (by rw [inv.size]; exact hi0s) hl0) i hle hi
    obtain ⟨hun, o, ho, hdeps⟩ := mem_ready.1 hi
    have hunf := getD_both hun
    have hd : dstOf ops i = o.dst := by unfold dstOf; rw [ho]; rfl
    have hwaits : ∀ j, j < n → Region.waitsFor .any ops i j = true → RegInv.Told ops S j V w := fun j hj hw => by
      obtain ⟨o', ho', e, he, hbd, hon⟩ := Region.waitsFor_spec hw
      obtain rfl : o' = o := Option.some.inj (ho'.symm.trans ho)
      exact ht j hj (by rw [← hon]; exact hdeps e he hbd)
    refine RegKeep.wpOp_step (Kp := Eff sp i) (T := fun v w' => (S.getD i sFree).tells ((S.getD i sFree).reads.map V) v w') ho (fun d hdd => hsz i hin V d (by rw [hd]; exact hdd)) (hstep i hin o ho V w hb (hpre i hin hunf) hwaits) ?_
    rintro v w' hb' hT
    rw [over_put a0 m V o.dst v (fun k hk => ((hall i hin o ho).2.1 k hk).1)]
    have hpi := hpre i hin hunf
    have hcom : Com w' := by
      unfold Eff at hb'
      cases hs1 : sp i with
      | none => rw [hs1] at hb'; exact hF.com _ _ hb hb'
      | some r => rw [hs1] at hb'; exact hF.comS i r hin hs1 _ _ hb hpi hb'
    have hpre' : ∀ j, j < n → j ≠ i → listed.getD j false = false → Pre j w → Pre j w' := fun j hj hne hlu hp => by
      have hna : aw i j = false := by
        cases h : aw i j with
        | false => rfl
        | true =>
          obtain ⟨o', ho', e, he, hbd, hon⟩ := Region.waitsFor_spec (haw i j hin hj h)
          obtain rfl : o' = o := Option.some.inj (ho'.symm.trans ho)
          have h2 := hdeps e he hbd
          rw [hon, hlu] at h2
          cases h2
      unfold Eff at hb'
      cases hs1 : sp i with
      | none => rw [hs1] at hb'; exact hF.pre _ _ _ hp hb'
      | some r => rw [hs1] at hb'; exact hF.preS i r hin hs1 j hj hne hna _ _ hb hpi hb' hp
    have htell : ∀ j, j < n → j ≠ i → ∀ l v, (S.getD j sFree).tells l v w → (S.getD j sFree).tells l v w' := fun j hj hne l v ht => by
      unfold Eff at hb'
      cases hs1 : sp i with
      | none => rw [hs1] at hb'; exact (S.getD j sFree).mono _ _ _ _ ht hb'
      | some r => rw [hs1] at hb'; exact hF.tellS i r hin hs1 j hj hne _ _ hb hpi hb' l v ht
    have hdist : ∀ j, j < n → j ≠ i → slotV ops j (upd V o.dst v) = slotV ops j V := fun j hj hne => by
      unfold slotV
      cases hdj : dstOf ops j with
      | none => rfl
      | some d =>
        cases hdo : o.dst with
        | none => rfl
        | some d' =>
          have h1 := ((hall i hin o ho).2.1 d' hdo).2 j hj hne
          rw [hdj] at h1
          have : ¬ d = d' := fun e => h1 (by rw [e])
          simp [upd, this]
    have hsame : ∀ j, j ≠ i → (listed.setIfInBounds i true).getD j false = true → listed.getD j false = true := fun j hne h => by rwa [getD_set_ne false (Ne.symm hne)] at h
    refine ih (listed.setIfInBounds i true) _ w' ?_ (inv.set hi hin) hcom (fun j hj hlj => ?_) ?_
    rotate_left 1
    · have hne : j ≠ i := fun e => by
        subst e
        have hsi : j < listed.size := by rw [inv.size]; omega
        simp [hsi] at hlj
      rw [getD_set_ne false (Ne.symm hne)] at hlj
      exact hpre' j hj hne hlj (hpre j hj hlj)
    rotate_left 1
    · -- one fewer
      have hnd : (List.range n).Nodup := List.nodup_range
      have hperm : ((List.range n).filter fun k => !listed.getD k false).Perm (i :: (List.range n).filter fun k => !(listed.setIfInBounds i true).getD k false) := by
        refine (List.perm_ext_iff_of_nodup (hnd.filter _) ?_).2 ?_
        · refine List.nodup_cons.2 ⟨?_, hnd.filter _⟩
          intro hm
          have := (List.mem_filter.1 hm).2
          have hsi : i < listed.size := by rw [inv.size]; omega
          simp [hsi] at this
        · intro k
          rw [List.mem_cons, List.mem_filter, List.mem_filter]
          by_cases hki : k = i
          · subst hki
            simp only [true_or, iff_true]
            exact ⟨List.mem_range.2 hin, by rw [hunf]; rfl⟩
          · rw [getD_set_ne false (Ne.symm hki)]
            simp [hki]
      have := hperm.length_eq
      rw [hcount] at this
      simpa using this.symm
    · intro j hj hlj
      have hstay : j ≠ i → RegInv.Told ops S j V w' := fun hne => by
        rw [getD_set_ne false (Ne.symm hne)] at hlj
        exact htell j hj hne _ _ (ht j hj hlj)
      by_cases hji : j = i
      · subst hji
        unfold RegInv.Told RSpec.holds
        rw [hd]
        have e1 : (S.getD j sFree).reads.map (upd V o.dst v) = (S.getD j sFree).reads.map V := by
          cases hdo : o.dst with
          | none => rfl
          | some d =>
            refine List.map_congr_left fun r hr => ?_
            have : ¬ r = d := fun e => by
              have := (hall j hj o ho).2.2 r hr j hj (by rw [hd, hdo, e])
              exact this.1 rfl
            simp [upd, this]
        rw [e1]
        cases hdo : o.dst with
        | none => rw [hdo] at hT; exact hT
        | some d => rw [hdo] at hT; simpa [upd] using hT
      · rw [← hd]
        refine RegInv.told_upd (fun hn0 => ?_) (fun r hr hrd => ?_) V v w' (hstay hji)
        · intro e
          cases hdo : dstOf ops i with
          | none => exact hn0 hdo
          | some d =>
            rw [hdo] at e
            obtain ⟨oj, hoj⟩ : ∃ oj, ops[j]? = some oj := ⟨ops[j], by simp [show j < ops.size by omega]⟩
            have hdj : oj.dst = some d := by unfold dstOf at e; rw [hoj] at e; exact e
            exact ((hall j hj oj hoj).2.1 d hdj).2 i hin (Ne.symm hji) hdo
        · obtain ⟨oj, hoj⟩ : ∃ oj, ops[j]? = some oj := ⟨ops[j], by simp [show j < ops.size by omega]⟩
          have hw := ((hall j hj oj hoj).2.2 r hr i hin hrd).2
          obtain ⟨o', ho', e, he, hbd, hon⟩ := Region.waitsFor_spec hw
          rw [getD_set_ne false (Ne.symm hji)] at hlj
          have := inv.closed j o' ho' hlj e he hbd
          rw [hon, hunf] at this
          cases this

/-- The law. -/
theorem wp_region_sp_inv {aw : Nat → Nat → Bool} (hK : Fits aw sp Com Pre S n) {id : Nat} {l : List Oper} {a : Act} {w : World} (hm : P.follows .mixedOrders = true) (hB : headB l.toArray n m (S.map (·.reads)) = true) (haw : ∀ i j, i < n → j < n → aw i j = true → Region.waitsFor .any l.toArray i j = true)
    (hcom : Com w.drew) (hpre : ∀ j, j < n → Pre j w.drew) (F : Vals → Act) (hF : ∀ V, over a m V = F V)
    (hsz : (List.range n).all (fun i => match dstOf l.toArray i with | none => true | some d => decide (d < a.tmps.size)) = true)
    (hstep : ∀ i, i < n → ∀ o, l.toArray[i]? = some o → ∀ V w', Com w' → Pre i w' → (∀ j, j < n → Region.waitsFor .any l.toArray i j = true → RegInv.Told l.toArray S j V w') →
      wpList P l.toArray (RegKeep.stepPost (Eff sp i) Q (F V) w' o (fun v w'' => (S.getD i sFree).tells ((S.getD i sFree).reads.map V) v w'')) [o] (F V) w')
    (hfin : ∀ V w', Com w' → (∀ j, j < n → RegInv.Told l.toArray S j V w') → wpList P l.toArray Q (l.drop n) (F V) w') :
    (Code.region id l.toArray true).wp P Q a w := by
  have hlen : ∀ (m : List Bool) (V : Vals) (k : Nat) (x : List Value), (overL m V k x).length = x.length := by
    intro m V
    induction m with
    | nil => intro k x; rfl
    | cons b m ih =>
      intro k x
      cases x with
      | nil => cases b <;> rfl
      | cons y x => cases b <;> (show _ + 1 = _; rw [ih]; rfl)
  have H := region_sp_any (P := P) (Q := Q) (ops := l.toArray) (n := n) (m := m) (S := S) (a0 := a) hK hB haw
    (fun i hi V d hd => by
      have := List.all_eq_true.1 hsz i (List.mem_range.2 hi)
      rw [hd] at this
      have h2 : d < a.tmps.size := by simpa using this
      unfold over
      simp [hlen, h2])
    (fun i hi o ho V w' hb hp ht => by rw [hF]; exact hstep i hi o ho V w' hb hp ht) (fun V w' hb ht => by rw [hF]; simpa using hfin V w' hb ht)
  obtain ⟨hn, -⟩ := RegInv.headB_spec hB
  have h0 := H n (Array.replicate l.toArray.size false) (fun k => a.tmps.getD k undef) w.drew
    (by
      have : (List.range n).filter (fun i => !(Array.replicate l.toArray.size false).getD i false) = List.range n := List.filter_eq_self.2 fun i _ => by rw [getD_replicate_false]; rfl
      rw [this, List.length_range])
    ⟨by simp, fun j oj _ hl => (by rw [getD_replicate_false] at hl; exact Bool.noConfusion hl), fun t _ ht => getD_in (by simpa using ht) (getD_replicate_false _ _)⟩
    hcom (fun j hj _ => hpre j hj) (fun j _ hl => (by rw [getD_replicate_false] at hl; exact Bool.noConfusion hl))
  rw [over_id] at h0
  refine wp_region_any hm ?_
  rwa [Nat.add_sub_cancel' hn] at h0

/-- The obligations, one for each operation of the head. -/
def Steps (P : Program) (ops : Array Oper) (Q : Exit → Act → World → Prop) (S : List RSpec) (sp : Nat → Option (World → World → Prop)) (Com : World → Prop) (Pre : Nat → World → Prop) (F : Vals → Act) : Nat → List Oper → Prop
  | _, [] => True
  | i, o :: r => (∀ V w', Com w' → Pre i w' → (∀ j, Region.waitsFor .any ops i j = true → RegInv.Told ops S j V w') → ∀ K : Exit → Act → World → Prop,
      (∀ a' w'', a'.defers = (F V).defers → Eff sp i w' w'' → (S.getD i sFree).tells ((S.getD i sFree).reads.map V) (slotAt o.dst a') w'' → K .normal a' w'') → (∀ e a w, e ≠ .normal → Q e a w → K e a w) →
      wpList P ops K [o] (F V) w') ∧ Steps P ops Q S sp Com Pre F (i + 1) r
theorem Steps.get {F : Vals → Act} : ∀ (r : List Oper) (i : Nat), Steps P ops Q S sp Com Pre F i r → ∀ k o, r[k]? = some o → ∀ V w', Com w' → Pre (i + k) w' → (∀ j, Region.waitsFor .any ops (i + k) j = true → RegInv.Told ops S j V w') →
      wpList P ops (RegKeep.stepPost (Eff sp (i + k)) Q (F V) w' o (fun v w'' => (S.getD (i + k) sFree).tells ((S.getD (i + k) sFree).reads.map V) v w'')) [o] (F V) w' := by
  intro r
  induction r with
  | nil => intro i _ k o h; simp at h
  | cons o r ih =>
    intro i h k o' ho V w' hb hp ht
    cases k with
    | zero =>
      obtain rfl : o = o' := by simpa using ho
      exact h.1 V w' hb hp ht _ (fun a' w'' h1 h2 h3 => ⟨h1, h2, h3⟩) (fun e a w hne hq => by cases e <;> first | exact absurd rfl hne | exact hq)
    | succ k =>
      have e : i + 1 + k = i + (k + 1) := by omega
      have := ih (i + 1) h.2 k o' (by simpa using ho) V w' hb (by rw [e]; exact hp) (by rw [e]; exact ht)
      rwa [e] at this

theorem wp_region_sp (aw : Nat → Nat → Bool) (sp : Nat → Option (World → World → Prop)) (Com : World → Prop) (Pre : Nat → World → Prop) {id : Nat} {l : List Oper} {a : Act} {w : World} (n : Nat) (m : List Bool) (S : List RSpec) (hK : Fits aw sp Com Pre S n) (hcom : Com w.drew) (hpre : ∀ j, j < n → Pre j w.drew)
    (hm : P.follows .mixedOrders = true) (hB : headB l.toArray n m (S.map (·.reads)) = true) (haw : ((List.range n).all fun i => (List.range n).all fun j => !aw i j || Region.waitsFor .any l.toArray i j) = true)
    (hsz : (List.range n).all (fun i => match dstOf l.toArray i with | none => true | some d => decide (d < a.tmps.size)) = true)
    (h : ∀ F : Vals → Act, (∀ V, F V = over a m V) → Steps P l.toArray Q S sp Com Pre F 0 (l.take n) ∧ ∀ V w', Com w' → (∀ j, j < n → RegInv.Told l.toArray S j V w') → wpList P l.toArray Q (l.drop n) (F V) w') :
    (Code.region id l.toArray true).wp P Q a w := by
  obtain ⟨h1, h2⟩ := h (over a m) (fun _ => rfl)
  obtain ⟨hn, -, -, -, hall⟩ := RegInv.headB_spec hB
  refine wp_region_sp_inv hK hm hB (fun i j hi hj h => by have h1 := List.all_eq_true.1 (List.all_eq_true.1 haw i (List.mem_range.2 hi)) j (List.mem_range.2 hj); rw [h] at h1; simpa using h1) hcom hpre (over a m) (fun _ => rfl) hsz (fun i hi o ho V w' hb hp ht => ?_) h2
  have := h1.get (l.take n) 0 i o (by rw [List.getElem?_take, if_pos hi]; simpa using ho) V w' hb (by rw [Nat.zero_add]; exact hp) (fun j hj => by
    rw [Nat.zero_add] at hj
    obtain ⟨o', ho', e, he, hbd, hon⟩ := Region.waitsFor_spec hj
    have := (hall i hi o' ho').1 e he hbd
    exact ht j (by omega) hj)
  rwa [Nat.zero_add] at this
end
end Go.Proofs.YtmjelcjdfamikaaGreatDoor.RegSp
