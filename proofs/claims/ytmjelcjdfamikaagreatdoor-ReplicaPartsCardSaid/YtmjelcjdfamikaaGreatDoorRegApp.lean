/- RegInv, AppFresh: in one text. -/
import Derived.StillTail
import Derived.Below
import Derived.Test.YtmjelcjdfamikaaGreatDoorCalmTail
import Derived.Laws.AppendOwn
set_option linter.unusedSimpArgs false
set_option linter.unusedVariables false
/-
  A region that draws its order, whose first n operations only read or make memory, each leaving ANY value of which something is told (what is told stays true in each later world): one obligation for each operation, in which no order stands; the rest runs in its order.
-/
namespace Go.Proofs.YtmjelcjdfamikaaGreatDoor.RegInv
open Go Go.RowKit

abbrev Vals := Nat → Value
/-- The slots that are marked hold what V says. -/
def overL : List Bool → Vals → Nat → List Value → List Value
  | [], _, _, l => l
  | _, _, _, [] => []
  | true :: m, V, k, _ :: l => V k :: overL m V (k + 1) l
  | false :: m, V, k, x :: l => x :: overL m V (k + 1) l
def over (a : Act) (m : List Bool) (V : Vals) : Act := { a with tmps := ⟨overL m V 0 a.tmps.toList⟩ }
def upd (V : Vals) (d : Option Tmp) (v : Value) : Vals := match d with
  | some d => fun k => if k = d then v else V k
  | none => V

theorem overL_id (m : List Bool) (V : Vals) : ∀ (k : Nat) (l : List Value), (∀ j x, l[j]? = some x → V (k + j) = x) → overL m V k l = l := by
  induction m with
  | nil => intro k l _; rfl
  | cons b m ih =>
    intro k l h
    cases l with
    | nil => cases b <;> rfl
    | cons x l =>
      have h0 : V k = x := by simpa using h 0 x rfl
      have h1 := ih (k + 1) l (fun j y hy => by have := h (j + 1) y (by simpa using hy); rwa [show k + 1 + j = k + (j + 1) by omega])
      cases b
      · show x :: overL m V (k + 1) l = _; rw [h1]
      · show V k :: overL m V (k + 1) l = _; rw [h0, h1]
theorem overL_set (V : Vals) (d : Nat) (v : Value) : ∀ (m : List Bool) (k : Nat) (l : List Value), (d < k ∨ m[d - k]? = some true) → overL m (upd V (some d) v) k l = if k ≤ d then (overL m V k l).set (d - k) v else overL m V k l := by
  intro m
  induction m with
  | nil =>
    intro k l h
    rcases h with h | h
    · rw [if_neg (by omega)]; rfl
    · simp at h
  | cons b m ih =>
    intro k l h
    cases l with
    | nil => cases b <;> (simp [overL])
    | cons x l =>
      have h' : d < k + 1 ∨ m[d - (k + 1)]? = some true := by
        by_cases hd : d < k + 1
        · exact Or.inl hd
        · rcases h with h | h
          · omega
          · rw [show d - k = (d - (k + 1)) + 1 by omega, List.getElem?_cons_succ] at h; exact Or.inr h
      have h1 := ih (k + 1) l h'
      by_cases hk : k ≤ d
      · rw [if_pos hk]
        by_cases he : k = d
        · subst he
          rcases h with h | h
          · omega
          · rw [Nat.sub_self] at h
            have hb : b = true := by simpa using h
            subst hb
            rw [if_neg (by omega)] at h1
            show upd V (some k) v k :: overL m (upd V (some k) v) (k + 1) l = _
            rw [h1, Nat.sub_self]
            simp [overL, upd]
        · have hk1 : k + 1 ≤ d := by omega
          rw [if_pos hk1] at h1
          rw [show d - k = (d - (k + 1)) + 1 by omega]
          cases b
          · show x :: overL m (upd V (some d) v) (k + 1) l = _
            rw [h1]; rfl
          · show upd V (some d) v k :: overL m (upd V (some d) v) (k + 1) l = _
            rw [h1]; simp [overL, upd, he]
      · rw [if_neg hk]
        rw [if_neg (by omega)] at h1
        cases b
        · show x :: overL m (upd V (some d) v) (k + 1) l = _
          rw [h1]; rfl
        · show upd V (some d) v k :: overL m (upd V (some d) v) (k + 1) l = _
          rw [h1]; simp [overL, upd, show ¬ k = d by omega]
theorem over_id (a : Act) (m : List Bool) : over a m (fun k => a.tmps.getD k undef) = a := by
  unfold over
  rw [overL_id m _ 0 a.tmps.toList (fun j x h => by
    have : a.tmps[j]? = some x := by simpa using h
    simp [this])]
theorem over_put (a : Act) (m : List Bool) (V : Vals) (d : Option Tmp) (v : Value) (hd : ∀ k, d = some k → m[k]? = some true) : (over a m V).put d v = over a m (upd V d v) := by
  cases d with
  | none => rfl
  | some d =>
    have h := overL_set V d v m 0 a.tmps.toList (Or.inr (by simpa using hd d rfl))
    rw [if_pos (Nat.zero_le _), Nat.sub_zero] at h
    unfold over Act.put
    simp only [h]
    simp

structure RSpec where
  reads : List Nat
  tells : List Value → Value → World → Prop
  mono : ∀ l v w w', tells l v w → Below w.heap.size w w' → tells l v w'
/-- What is told of a slot's value alone. -/
def sOne (t : Value → World → Prop) (h : ∀ v w w', t v w → Below w.heap.size w w' → t v w') : RSpec := ⟨[], fun _ v w => t v w, fun _ v w w' => h v w w'⟩
def sFree : RSpec := ⟨[], fun _ _ _ => True, fun _ _ _ _ h _ => h⟩
/-- The slot holds this value. -/
def sLit (u : Value) : RSpec := ⟨[], fun _ v _ => v = u, fun _ _ _ _ h _ => h⟩
/-- The slot holds what these slots' values make. -/
def sFn1 (r : Nat) (f : Value → Value) : RSpec := ⟨[r], fun l v _ => v = f (l.getD 0 undef), fun _ _ _ _ h _ => h⟩
def sFn2 (r1 r2 : Nat) (f : Value → Value → Value) : RSpec := ⟨[r1, r2], fun l v _ => v = f (l.getD 0 undef) (l.getD 1 undef), fun _ _ _ _ h _ => h⟩
def sFn3 (r1 r2 r3 : Nat) (f : Value → Value → Value → Value) : RSpec := ⟨[r1, r2, r3], fun l v _ => v = f (l.getD 0 undef) (l.getD 1 undef) (l.getD 2 undef), fun _ _ _ _ h _ => h⟩
def RSpec.holds (s : RSpec) (d : Option Tmp) (V : Vals) (w : World) : Prop := s.tells (s.reads.map V) (match d with | some d => V d | none => undef) w

def dstOf (ops : Array Oper) (i : Nat) : Option Tmp := (ops[i]?).bind (·.dst)
/-- The value in the slot of operation o. -/
def slotOf (o : Oper) (a : Act) : Value := match o.dst with | some d => a.tmps.getD d undef | none => undef

/-- What is asked behind an operation. -/
def stepPost (Q : Exit → Act → World → Prop) (a : Act) (w : World) (o : Oper) (T : Value → World → Prop) : Exit → Act → World → Prop
  | .normal, a', w' => a'.defers = a.defers ∧ Below w.heap.size w w' ∧ T (slotOf o a') w'
  | e, a', w' => Q e a' w'

theorem slot_put {o : Oper} {a : Act} {v : Value} (h : ∀ d, o.dst = some d → d < a.tmps.size) : slotOf o (a.put o.dst v) = match o.dst with | some _ => v | none => undef := by
  unfold slotOf
  cases hd : o.dst with
  | none => rfl
  | some d => simp [Act.put, h d hd]

section
variable {P : Program} {ops : Array Oper} {Q : Exit → Act → World → Prop}

theorem upon_step {o : Oper} {a : Act} {w0 : World} {T : Value → World → Prop} {K : Act → World → Prop} (hsz : ∀ d, o.dst = some d → d < a.tmps.size)
    (hK : ∀ v w', Below w0.heap.size w0 w' → T (match o.dst with | some _ => v | none => undef) w' → K (a.put o.dst v) w') (r : Result Next)
    (h : o.upon P a (wpList P ops (stepPost Q a w0 o T) []) (stepPost Q a w0 o T) r) : o.upon P a K Q r := by
  have key : ∀ v w', wpList P ops (stepPost Q a w0 o T) [] (a.put o.dst v) w' → K (a.put o.dst v) w' := fun v w' hh => by
    have h3 : _ ∧ _ ∧ _ := hh
    exact hK v w' h3.2.1 (by rw [← slot_put hsz]; exact h3.2.2)
  have out : LetsOut (stepPost Q a w0 o T) → LetsOut Q := fun ⟨a', w', hh⟩ => ⟨a', w', hh⟩
  cases r with
  | ok n w' =>
    cases n with
    | value v => exact key v w' h
    | skip => exact key undef w' h
    | defer d =>
      exfalso
      have h3 : _ ∧ _ ∧ _ := h
      have h4 := h3.1
      cases hd : o.dst <;> simp [Act.put, hd] at h4
    | enter f args =>
      refine Calls.mono (show Calls P f args w' _ from h) ?_
      intro e w'' he
      cases e with
      | returned v => exact key v w'' he
      | panicked c => exact he
      | outgrown => exact out he
    | row row args => exact Rows.mono (show Rows P row args w' _ from h) (fun v w'' he => key v w'' he)
    | _ => exact h
  | halt x w' => cases x <;> exact h

theorem wpOp_step {i : Nat} {o : Oper} {a : Act} {w : World} {T : Value → World → Prop} {K : Act → World → Prop} (ho : ops[i]? = some o) (hsz : ∀ d, o.dst = some d → d < a.tmps.size)
    (h : wpList P ops (stepPost Q a w o T) [o] a w)
    (hK : ∀ v w', Below w.heap.size w w' → T (match o.dst with | some _ => v | none => undef) w' → K (a.put o.dst v) w') : wpOp P ops Q i K a w := by
  unfold wpOp
  simp only [ho]
  unfold wpList at h
  split
  · rename_i hw
    rw [if_pos hw] at h
    rcases h with h | ⟨h1, a', w', h2⟩
    · exact Or.inl (upon_step hsz hK _ h)
    · exact Or.inr ⟨h1, a', w', h2⟩
  · rename_i hw
    rw [if_neg hw] at h
    have h3 : _ ∧ _ ∧ _ := h
    exact hK undef w h3.2.1 (by rw [← slot_put hsz]; exact h3.2.2)

/-- The checks: the head's operations look back only; each one's slot is its own and marked; what a telling reads lies in slots of operations that it waits for. -/
def headB (ops : Array Oper) (n : Nat) (m : List Bool) (rd : List (List Nat)) : Bool :=
  decide (n ≤ ops.size) && Region.sinkB .any ops n && Region.chainB .any ops n &&
  (List.range n).all (fun i => match ops[i]? with
    | none => false
    | some o => (o.after.all fun e => !Region.binds .any e || decide (e.on < i)) &&
      (match o.dst with | none => true | some d => (m[d]? == some true) && (List.range n).all (fun j => j == i || !(dstOf ops j == some d))) &&
      (rd.getD i []).all fun r => (List.range n).all fun j => !(dstOf ops j == some r) || (!(j == i) && Region.waitsFor .any ops i j)) &&
  Region.seqB .any ops (ops.size - n) n ⟨List.replicate n true ++ List.replicate (ops.size - n) false⟩

variable {n : Nat} {m : List Bool} {S : List RSpec} {fr : List Nat} {a0 : Act} {w0 : World}

def slotV (ops : Array Oper) (i : Nat) (V : Vals) : Value := match dstOf ops i with | some d => V d | none => undef
/-- An operation that is marked fresh hands back the address of a block that is made by it. -/
def Fresh (fr : List Nat) (i : Nat) (v : Value) (w w' : World) : Prop := if fr.contains i then v = .pointer (some ⟨w.heap.size, 0, none⟩) ∧ w.heap.size < w'.heap.size else True
/-- No two of them are the same. -/
def Apart (ops : Array Oper) (fr : List Nat) (n : Nat) (listed : Array Bool) (V : Vals) (w : World) : Prop :=
  (∀ i, i < n → fr.contains i = true → listed.getD i false = true → ∃ k, slotV ops i V = .pointer (some ⟨k, 0, none⟩) ∧ k < w.heap.size) ∧
  ∀ i j, i < n → j < n → fr.contains i = true → fr.contains j = true → listed.getD i false = true → listed.getD j false = true → i ≠ j → slotV ops i V ≠ slotV ops j V
/-- What is told of operation j. -/
def Told (ops : Array Oper) (S : List RSpec) (j : Nat) (V : Vals) (w : World) : Prop := (S.getD j sFree).holds (dstOf ops j) V w

theorem told_upd {i j : Nat} (hne : dstOf ops i ≠ none → dstOf ops j ≠ dstOf ops i) (hr : ∀ r ∈ (S.getD j sFree).reads, dstOf ops i ≠ some r) (V : Vals) (v : Value) (w : World) (h : Told ops S j V w) : Told ops S j (upd V (dstOf ops i) v) w := by
  unfold Told RSpec.holds at *
  cases hi : dstOf ops i with
  | none => exact h
  | some d =>
    have e1 : (S.getD j sFree).reads.map (upd V (some d) v) = (S.getD j sFree).reads.map V := List.map_congr_left fun r hm => by
      have := hr r hm
      rw [hi] at this
      simp [upd, show ¬ r = d from fun e => this (by rw [e])]
    rw [e1]
    have hj := hne (by rw [hi]; exact fun e => by cases e)
    rw [hi] at hj
    cases hdj : dstOf ops j with
    | none => rw [hdj] at h; exact h
    | some k =>
      rw [hdj] at h hj
      have : ¬ k = d := fun e => hj (by rw [e])
      simpa [upd, this] using h

theorem headB_spec (h : headB ops n m (S.map (·.reads)) = true) :
    n ≤ ops.size ∧ Region.sinkB .any ops n = true ∧ Region.chainB .any ops n = true ∧ Region.seqB .any ops (ops.size - n) n ⟨List.replicate n true ++ List.replicate (ops.size - n) false⟩ = true ∧
    (∀ i, i < n → ∀ o, ops[i]? = some o → (∀ e ∈ o.after, Region.binds .any e = true → e.on < i) ∧ (∀ d, o.dst = some d → m[d]? = some true ∧ ∀ j, j < n → j ≠ i → dstOf ops j ≠ some d) ∧
      (∀ r ∈ (S.getD i sFree).reads, ∀ j, j < n → dstOf ops j = some r → j ≠ i ∧ Region.waitsFor .any ops i j = true)) := by
  unfold headB at h
  simp only [Bool.and_eq_true, decide_eq_true_eq] at h
  obtain ⟨⟨⟨⟨h1, h2⟩, h3⟩, h4⟩, h5⟩ := h
  refine ⟨h1, h2, h3, h5, ?_⟩
  intro i hi o ho
  have h6 := List.all_eq_true.1 h4 i (List.mem_range.2 hi)
  simp only [ho, Bool.and_eq_true] at h6
  obtain ⟨⟨h7, h8⟩, h9⟩ := h6
  refine ⟨fun e he hb => ?_, fun d hd => ?_, fun r hr j hj hdj => ?_⟩
  · obtain ⟨k, hk, rfl⟩ := Array.mem_iff_getElem.1 he
    have := (Array.all_eq_true.1 h7) k hk
    simpa [hb] using this
  · simp only [hd, Bool.and_eq_true, beq_iff_eq] at h8
    refine ⟨h8.1, fun j hj hne hdj => ?_⟩
    have := List.all_eq_true.1 h8.2 j (List.mem_range.2 hj)
    simp [hne, hdj] at this
  · have hrd : (S.map (·.reads)).getD i [] = (S.getD i sFree).reads := by
      simp only [List.getD_eq_getElem?_getD, List.getElem?_map]
      cases S[i]? <;> rfl
    rw [hrd] at h9
    have h10 := List.all_eq_true.1 h9 r hr
    have := List.all_eq_true.1 h10 j (List.mem_range.2 hj)
    simpa [hdj] using this

theorem region_inv_any (hB : headB ops n m (S.map (·.reads)) = true)
    (hsz : ∀ i, i < n → ∀ V d, dstOf ops i = some d → d < (over a0 m V).tmps.size)
    (hstep : ∀ i, i < n → ∀ o, ops[i]? = some o → ∀ V w, Below w0.heap.size w0 w → (∀ j, j < n → Region.waitsFor .any ops i j = true → Told ops S j V w) →
      wpList P ops (stepPost Q (over a0 m V) w o (fun v w' => (S.getD i sFree).tells ((S.getD i sFree).reads.map V) v w' ∧ Fresh fr i v w w')) [o] (over a0 m V) w)
    (hfin : ∀ V w, Below w0.heap.size w0 w → (∀ j, j < n → Told ops S j V w) → (∀ i j, i < n → j < n → fr.contains i = true → fr.contains j = true → i ≠ j → slotV ops i V ≠ slotV ops j V) → wpList P ops Q (ops.toList.drop n) (over a0 m V) w) :
    ∀ (c : Nat) (listed : Array Bool) (V : Vals) (w : World), ((List.range n).filter fun i => !listed.getD i false).length = c → HeadInv .any ops n listed → Below w0.heap.size w0 w →
      (∀ j, j < n → listed.getD j false = true → Told ops S j V w) → Apart ops fr n listed V w → wpAny P .any ops Q (c + (ops.size - n)) listed (over a0 m V) w := by
  obtain ⟨hn, hs, hc, hq, hall⟩ := headB_spec hB
  intro c
  induction c with
  | zero =>
    intro listed V w hcount inv hb ht hap
    have hlist : ∀ j, j < n → listed.getD j false = true := fun j hj => by
      cases e : listed.getD j false with
      | true => rfl
      | false =>
        have : j ∈ (List.range n).filter fun i => !listed.getD i false := List.mem_filter.2 ⟨List.mem_range.2 hj, by rw [e]; rfl⟩
        have h0 := List.length_eq_zero_iff.1 hcount
        rw [h0] at this
        cases this
    have he : listed = ⟨List.replicate n true ++ List.replicate (ops.size - n) false⟩ := by
      apply Array.ext
      · rw [inv.size]; simp; omega
      · intro i h1 h2
        have hi : i < ops.size := by rw [← inv.size]; exact h1
        simp only [List.getElem_toArray]
        rw [List.getElem_append]
        split
        · rename_i hlt
          have := hlist i (by simpa using hlt)
          simpa [h1] using this
        · rename_i hge
          have := inv.tail i (by simpa using hge) hi
          simpa [h1] using this
    subst he
    rw [Nat.zero_add]
    have := wpAny_of_seq (md := .any) (Q' := Q) (ops.toList.drop n) n _ (over a0 m V) w (fun j => by simp [List.getElem?_drop]) (by rw [List.length_drop, Array.length_toList]; exact hq) (hfin V w hb (fun j hj => ht j hj (hlist j hj)) (fun i j hi hj h1 h2 hne => hap.2 i j hi hj h1 h2 (hlist i hi) (hlist j hj) hne))
    rwa [List.length_drop, Array.length_toList] at this
  | succ c ih =>
    intro listed V w hcount inv hb ht hap
    -- one that isn't listed yet
    have hex : ∃ i, i < n ∧ listed.getD i false = false := by
      have : (List.range n).filter (fun i => !listed.getD i false) ≠ [] := fun e => by rw [e] at hcount; cases hcount
      obtain ⟨i, hi⟩ := List.exists_mem_of_ne_nil _ this
      obtain ⟨h1, h2⟩ := List.mem_filter.1 hi
      exact ⟨i, List.mem_range.1 h1, by simpa using h2⟩
    have hleast : ∃ i, i < n ∧ listed.getD i false = false ∧ ∀ j, j < i → listed.getD j false = true := by
      obtain ⟨i, h1, h2⟩ := hex
      induction i using Nat.strongRecOn with
      | _ i ihi =>
        by_cases hj : ∃ j, j < i ∧ listed.getD j false = false
        · obtain ⟨j, hj1, hj2⟩ := hj
          exact ihi j hj1 (by omega) hj2
        · refine ⟨i, h1, h2, fun j hji => ?_⟩
          cases e : listed.getD j false with
          | true => rfl
          | false => exact absurd ⟨j, hji, e⟩ hj
    obtain ⟨i0, hi0, hl0, hmin⟩ := hleast
    have hi0s : i0 < ops.size := by omega
    have hready : i0 ∈ Region.ready .any ops listed := by
      refine mem_ready.2 ⟨getD_in (by rw [inv.size]; exact hi0s) hl0, ops[i0], by simp [hi0s], fun e he hbd => hmin e.on ?_⟩
      exact (hall i0 hi0 _ (by simp [hi0s])).1 e he hbd
    rw [show c + 1 + (ops.size - n) = (c + (ops.size - n)) + 1 by omega]
    refine ⟨fun h0 => absurd hready (by rw [h0]; exact List.not_mem_nil), fun i hi => ?_⟩
    have hin : i < n := by
      apply Nat.lt_of_not_le
      intro hle
      have hnlt : n < ops.size := by
        obtain ⟨_, o, ho, _⟩ := mem_ready.1 hi
        have := (Array.getElem?_eq_some_iff.1 ho).1
        omega
      exact tail_waits hs hc hnlt inv _ i0 rfl hi0 (getD_in (by rw [inv.size]; exact hi0s) hl0) i hle hi
    obtain ⟨hun, o, ho, hdeps⟩ := mem_ready.1 hi
    have hunf := getD_both hun
    have hd : dstOf ops i = o.dst := by unfold dstOf; rw [ho]; rfl
    have hwaits : ∀ j, j < n → Region.waitsFor .any ops i j = true → Told ops S j V w := fun j hj hw => by
      obtain ⟨o', ho', e, he, hbd, hon⟩ := Region.waitsFor_spec hw
      obtain rfl : o' = o := Option.some.inj (ho'.symm.trans ho)
      exact ht j hj (by rw [← hon]; exact hdeps e he hbd)
    refine wpOp_step (T := fun v w' => (S.getD i sFree).tells ((S.getD i sFree).reads.map V) v w' ∧ Fresh fr i v w w') ho (fun d hdd => hsz i hin V d (by rw [hd]; exact hdd)) (hstep i hin o ho V w hb hwaits) ?_
    rintro v w' hb' ⟨hT, hfr⟩
    rw [over_put a0 m V o.dst v (fun k hk => ((hall i hin o ho).2.1 k hk).1)]
    have hdist : ∀ j, j < n → j ≠ i → slotV ops j (upd V o.dst v) = slotV ops j V := fun j hj hne => by
      unfold slotV
      cases hdj : dstOf ops j with
      | none => rfl
      | some d =>
        cases hdo : o.dst with
        | none => rfl
        | some d' =>
          have h1 := ((hall i hin o ho).2.1 d' hdo).2 j hj hne
          rw [hdj] at h1
          have : ¬ d = d' := fun e => h1 (by rw [e])
          simp [upd, this]
    have hown : fr.contains i = true → slotV ops i (upd V o.dst v) = .pointer (some ⟨w.heap.size, 0, none⟩) ∧ w.heap.size < w'.heap.size := fun hc => by
      unfold Fresh at hfr
      rw [if_pos hc] at hfr
      refine ⟨?_, hfr.2⟩
      unfold slotV
      rw [hd]
      cases hdo : o.dst with
      | none => rw [hdo] at hfr; exact hfr.1
      | some d => rw [hdo] at hfr; simpa [upd] using hfr.1
    have hsame : ∀ j, j ≠ i → (listed.setIfInBounds i true).getD j false = true → listed.getD j false = true := fun j hne h => by rwa [getD_set_ne false (Ne.symm hne)] at h
    refine ih (listed.setIfInBounds i true) _ w' ?_ (inv.set hi hin) (hb.trans (hb'.mono hb.size)) ?_ ⟨fun j hj hfj hlj => ?_, fun j k hj hk hfj hfk hlj hlk hne => ?_⟩
    rotate_left 2
    · by_cases hji : j = i
      · subst hji; exact ⟨_, hown hfj⟩
      · obtain ⟨k, h1, h2⟩ := hap.1 j hj hfj (hsame j hji hlj)
        exact ⟨k, by rw [hdist j hj hji]; exact h1, Nat.lt_of_lt_of_le h2 hb'.size⟩
    · by_cases hji : j = i
      · subst hji
        have hki : k ≠ j := Ne.symm hne
        obtain ⟨q, h1, h2⟩ := hap.1 k hk hfk (hsame k hki hlk)
        rw [(hown hfj).1, hdist k hk hki, h1]
        intro e
        injection e with e; injection e with e; injection e with e
        omega
      · by_cases hki : k = i
        · subst hki
          obtain ⟨q, h1, h2⟩ := hap.1 j hj hfj (hsame j hji hlj)
          rw [(hown hfk).1, hdist j hj hji, h1]
          intro e
          injection e with e; injection e with e; injection e with e
          omega
        · rw [hdist j hj hji, hdist k hk hki]
          exact hap.2 j k hj hk hfj hfk (hsame j hji hlj) (hsame k hki hlk) hne
    · -- one fewer
      have hnd : (List.range n).Nodup := List.nodup_range
      have hperm : ((List.range n).filter fun k => !listed.getD k false).Perm (i :: (List.range n).filter fun k => !(listed.setIfInBounds i true).getD k false) := by
        refine (List.perm_ext_iff_of_nodup (hnd.filter _) ?_).2 ?_
        · refine List.nodup_cons.2 ⟨?_, hnd.filter _⟩
          intro hm
          have := (List.mem_filter.1 hm).2
          have hsi : i < listed.size := by rw [inv.size]; omega
          simp [hsi] at this
        · intro k
          rw [List.mem_cons, List.mem_filter, List.mem_filter]
          by_cases hki : k = i
          · subst hki
            simp only [true_or, iff_true]
            exact ⟨List.mem_range.2 hin, by rw [hunf]; rfl⟩
          · rw [getD_set_ne false (Ne.symm hki)]
            simp [hki]
      have := hperm.length_eq
      rw [hcount] at this
      simpa using this.symm
    · intro j hj hlj
      have hstay : j ≠ i → Told ops S j V w' := fun hne => by
        rw [getD_set_ne false (Ne.symm hne)] at hlj
        exact (S.getD j sFree).mono _ _ _ _ (ht j hj hlj) hb'
      by_cases hji : j = i
      · subst hji
        unfold Told RSpec.holds
        rw [hd]
        have e1 : (S.getD j sFree).reads.map (upd V o.dst v) = (S.getD j sFree).reads.map V := by
          cases hdo : o.dst with
          | none => rfl
          | some d =>
            refine List.map_congr_left fun r hr => ?_
            have : ¬ r = d := fun e => by
              have := (hall j hj o ho).2.2 r hr j hj (by rw [hd, hdo, e])
              exact this.1 rfl
            simp [upd, this]
        rw [e1]
        cases hdo : o.dst with
        | none => rw [hdo] at hT; exact hT
        | some d => rw [hdo] at hT; simpa [upd] using hT
      · rw [← hd]
        refine told_upd (fun hn0 => ?_) (fun r hr hrd => ?_) V v w' (hstay hji)
        · intro e
          cases hdo : dstOf ops i with
          | none => exact hn0 hdo
          | some d =>
            rw [hdo] at e
            obtain ⟨oj, hoj⟩ : ∃ oj, ops[j]? = some oj := ⟨ops[j], by simp [show j < ops.size by omega]⟩
            have hdj : oj.dst = some d := by unfold dstOf at e; rw [hoj] at e; exact e
            exact ((hall j hj oj hoj).2.1 d hdj).2 i hin (Ne.symm hji) hdo
        · obtain ⟨oj, hoj⟩ : ∃ oj, ops[j]? = some oj := ⟨ops[j], by simp [show j < ops.size by omega]⟩
          have hw := ((hall j hj oj hoj).2.2 r hr i hin hrd).2
          obtain ⟨o', ho', e, he, hbd, hon⟩ := Region.waitsFor_spec hw
          rw [getD_set_ne false (Ne.symm hji)] at hlj
          have := inv.closed j o' ho' hlj e he hbd
          rw [hon, hunf] at this
          cases this

/-- The law. -/
theorem wp_region_inv {id : Nat} {l : List Oper} {a : Act} {w : World} (fr : List Nat) (n : Nat) (m : List Bool) (S : List RSpec) (hm : P.follows .mixedOrders = true) (hB : headB l.toArray n m (S.map (·.reads)) = true)
    (F : Vals → Act) (hF : ∀ V, over a m V = F V)
    (hsz : (List.range n).all (fun i => match dstOf l.toArray i with | none => true | some d => decide (d < a.tmps.size)) = true)
    (hstep : ∀ i, i < n → ∀ o, l.toArray[i]? = some o → ∀ V w', Below w.heap.size w w' → (∀ j, j < n → Region.waitsFor .any l.toArray i j = true → Told l.toArray S j V w') →
      wpList P l.toArray (stepPost Q (F V) w' o (fun v w'' => (S.getD i sFree).tells ((S.getD i sFree).reads.map V) v w'' ∧ Fresh fr i v w' w'')) [o] (F V) w')
    (hfin : ∀ V w', Below w.heap.size w w' → (∀ j, j < n → Told l.toArray S j V w') → (∀ i j, i < n → j < n → fr.contains i = true → fr.contains j = true → i ≠ j → slotV l.toArray i V ≠ slotV l.toArray j V) → wpList P l.toArray Q (l.drop n) (F V) w') :
    (Code.region id l.toArray true).wp P Q a w := by
  have hlen : ∀ (m : List Bool) (V : Vals) (k : Nat) (x : List Value), (overL m V k x).length = x.length := by
    intro m V
    induction m with
    | nil => intro k x; rfl
    | cons b m ih =>
      intro k x
      cases x with
      | nil => cases b <;> rfl
      | cons y x => cases b <;> (show _ + 1 = _; rw [ih]; rfl)
  have H := region_inv_any (P := P) (Q := Q) (ops := l.toArray) (n := n) (m := m) (S := S) (fr := fr) (a0 := a) (w0 := w) hB
    (fun i hi V d hd => by
      have := List.all_eq_true.1 hsz i (List.mem_range.2 hi)
      rw [hd] at this
      have h2 : d < a.tmps.size := by simpa using this
      unfold over
      simp [hlen, h2])
    (fun i hi o ho V w' hb ht => by rw [hF]; exact hstep i hi o ho V w' hb ht) (fun V w' hb ht hap => by rw [hF]; simpa using hfin V w' hb ht hap)
  obtain ⟨hn, -⟩ := headB_spec hB
  have h0 := H n (Array.replicate l.toArray.size false) (fun k => a.tmps.getD k undef) w.drew
    (by
      have : (List.range n).filter (fun i => !(Array.replicate l.toArray.size false).getD i false) = List.range n := List.filter_eq_self.2 fun i _ => by rw [getD_replicate_false]; rfl
      rw [this, List.length_range])
    ⟨by simp, fun j oj _ hl => (by rw [getD_replicate_false] at hl; exact Bool.noConfusion hl), fun t _ ht => getD_in (by simpa using ht) (getD_replicate_false _ _)⟩
    (Below.refl _ _).drew (fun j _ hl => (by rw [getD_replicate_false] at hl; exact Bool.noConfusion hl)) ⟨fun j _ _ hl => (by rw [getD_replicate_false] at hl; exact Bool.noConfusion hl), fun j _ _ _ _ _ hl => (by rw [getD_replicate_false] at hl; exact Bool.noConfusion hl)⟩
  rw [over_id] at h0
  refine wp_region_any hm ?_
  rwa [Nat.add_sub_cancel' hn] at h0

def slotAt (d : Option Tmp) (a : Act) : Value := match d with | some d => a.tmps.getD d undef | none => undef
/-- The obligations, one for each operation of the head. -/
def Steps (P : Program) (ops : Array Oper) (Q : Exit → Act → World → Prop) (S : List RSpec) (fr : List Nat) (F : Vals → Act) (w : World) : Nat → List Oper → Prop
  | _, [] => True
  | i, o :: r => (∀ V w', Below w.heap.size w w' → (∀ j, Region.waitsFor .any ops i j = true → Told ops S j V w') → ∀ K : Exit → Act → World → Prop,
      (∀ a' w'', a'.defers = (F V).defers → Below w'.heap.size w' w'' → (S.getD i sFree).tells ((S.getD i sFree).reads.map V) (slotAt o.dst a') w'' → Fresh fr i (slotAt o.dst a') w' w'' → K .normal a' w'') → (∀ e a w, e ≠ .normal → Q e a w → K e a w) →
      wpList P ops K [o] (F V) w') ∧ Steps P ops Q S fr F w (i + 1) r
theorem Steps.get {S : List RSpec} {F : Vals → Act} {w : World} : ∀ (r : List Oper) (i : Nat), Steps P ops Q S fr F w i r → ∀ k o, r[k]? = some o → ∀ V w', Below w.heap.size w w' → (∀ j, Region.waitsFor .any ops (i + k) j = true → Told ops S j V w') →
      wpList P ops (stepPost Q (F V) w' o (fun v w'' => (S.getD (i + k) sFree).tells ((S.getD (i + k) sFree).reads.map V) v w'' ∧ Fresh fr (i + k) v w' w'')) [o] (F V) w' := by
  intro r
  induction r with
  | nil => intro i _ k o h; simp at h
  | cons o r ih =>
    intro i h k o' ho V w' hb ht
    cases k with
    | zero =>
      obtain rfl : o = o' := by simpa using ho
      exact h.1 V w' hb ht _ (fun a' w'' h1 h2 h3 h4 => ⟨h1, h2, h3, h4⟩) (fun e a w hne hq => by cases e <;> first | exact absurd rfl hne | exact hq)
    | succ k =>
      have e : i + 1 + k = i + (k + 1) := by omega
      have := ih (i + 1) h.2 k o' (by simpa using ho) V w' hb (by rw [e]; exact ht)
      rwa [e] at this

theorem wp_region_told {id : Nat} {l : List Oper} {a : Act} {w : World} (fr : List Nat) (n : Nat) (m : List Bool) (S : List RSpec) (hm : P.follows .mixedOrders = true) (hB : headB l.toArray n m (S.map (·.reads)) = true)
    (hsz : (List.range n).all (fun i => match dstOf l.toArray i with | none => true | some d => decide (d < a.tmps.size)) = true)
    (h : ∀ F : Vals → Act, (∀ V, F V = over a m V) → Steps P l.toArray Q S fr F w 0 (l.take n) ∧ ∀ V w', Below w.heap.size w w' → (∀ j, j < n → Told l.toArray S j V w') → (∀ i j, i < n → j < n → fr.contains i = true → fr.contains j = true → i ≠ j → slotV l.toArray i V ≠ slotV l.toArray j V) → wpList P l.toArray Q (l.drop n) (F V) w') :
    (Code.region id l.toArray true).wp P Q a w := by
  obtain ⟨h1, h2⟩ := h (over a m) (fun _ => rfl)
  obtain ⟨hn, -, -, -, hall⟩ := headB_spec hB
  refine wp_region_inv fr n m S hm hB (over a m) (fun _ => rfl) hsz (fun i hi o ho V w' hb ht => ?_) h2
  have := h1.get (l.take n) 0 i o (by rw [List.getElem?_take, if_pos hi]; simpa using ho) V w' hb (fun j hj => by
    rw [Nat.zero_add] at hj
    obtain ⟨o', ho', e, he, hbd, hon⟩ := Region.waitsFor_spec hj
    have := (hall i hi o' ho').1 e he hbd
    exact ht j (by omega) hj)
  rwa [Nat.zero_add] at this
end
end Go.Proofs.YtmjelcjdfamikaaGreatDoor.RegInv

/- An append to an empty row with no room (a literal '[]T{}') makes memory alone: all that was stays as it was. -/
namespace Go.Proofs.YtmjelcjdfamikaaGreatDoor
open Go Go.RowKit

section
variable {P : Program} {w : World}
theorem run_append_fresh (base : Nat) (t ty e : TypeId) (i : TypeInfo) (z : Value) (size bytes : Nat) (ht : P.underlying t = some (.slice e)) (hi : P.info? e = some i) (hz : i.zero = some z)
    (hsize : i.size = size) (hby : i.bytes = bytes) (hzs : z.cells.size = size) (k : Nat) (hown : w.ownsRow base e size (.slice (some ⟨k, 0, none⟩) 0 0) 0 [])
    (a : Addr) (m c : Nat) (news : List Value) (hl : news.length = m * size) (hnews : ∀ j u, news[j]? = some u → w.cell? (a.add j) = some u) (h1 : ∀ u ∈ news, u.oneCell' = true)
    (h63 : m ≤ maxLen) (hbytes : m * bytes ≤ 140737488355328) (hbase : base ≤ w.heap.size) :
    ∃ v' w', (Builtin.append_ #[t, t] ty #[.slice (some ⟨k, 0, none⟩) 0 0, .slice (some a) m c]).run P w = .ok v' w' ∧ w'.ownsRow base e size v' m news ∧ RowKit.Below w.heap.size w w' := by
  subst hsize
  subst hby
  obtain ⟨-, ⟨h0, -⟩ | ⟨g, cap, cur, hv, hbg, hg, hnc, hcm, hcs, htake⟩⟩ := hown
  · cases h0
  · injection hv with hv1 _ hv2
    injection hv1 with hv1
    injection hv1 with hv1
    subst hv1
    subst hv2
    by_cases hm : m = 0
    · subst hm
      have hn : news = [] := List.eq_nil_of_length_eq_zero (by simpa using hl)
      subst hn
      have hcur : cur = #[] := Array.eq_empty_of_size_eq_zero (by simpa using hcs)
      subst hcur
      have hr := run_append_room (P := P) (w := w) t ty e i ht hi k 0 0 #[] hg a 0 c [] (by simp) hnews h1 (by omega) (by simp)
      refine ⟨_, _, hr, ⟨by simp, .inr ⟨k, 0, _, rfl, hbg, setRow_heap w k #[] _ e _ hg, by omega, by simp [maxLen], by simp, by simp⟩⟩, rfl, rfl, rfl, by simp, fun j hj => ?_⟩
      by_cases hjk : j = k
      · subst hjk
        rw [setRow_heap w j #[] _ e _ hg, hg]
        simp
      · exact setRow_other w k j _ hjk
    · have hr := run_append_grow (P := P) (w := w) t ty e i z ht hi hz ⟨k, 0, none⟩ 0 0 [] (by simp) (fun j u h => by simp at h) a m c news hl hnews (by omega) (by simp only [maxLen] at h63; omega) (growslice_fits (by omega) (by simpa using hbytes))
      simp only [Nat.zero_add] at hr
      have hge := grownCap_ge w m 0 e
      have hcm2 : grownCap w m 0 e ≤ maxLen := grownCap_le_maxLen w m 0 e h63
      refine ⟨_, _, hr, ⟨hl, .inr ⟨w.heap.size, _, _, rfl, hbase, heap_alloc_new w.drew _, hge, hcm2, ?_, ?_⟩⟩, ((Below.refl _ w).drew).alloc (Nat.le_refl _) _⟩
      · simp only [Array.size_append, List.size_toArray, size_zeroCells, hzs, hl, List.length_nil, Nat.zero_add, ← Nat.add_mul]
        congr 1
        omega
      · simp only [Array.toList_append, List.append_assoc, List.nil_append]
        rw [← hl]
        exact List.take_left
end
end Go.Proofs.YtmjelcjdfamikaaGreatDoor
