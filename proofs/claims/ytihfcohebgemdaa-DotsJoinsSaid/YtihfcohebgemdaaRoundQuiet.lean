/-
  A region that draws its order and only reads, INSIDE A ROUND of a loop over an iterator: one walk, in the order of the text, serves every order. (The kit's law for fenced walks asks that the fence is in no round; all that is needed is that no operation defers.)
  Use: 'refine wpIn_region_quiet_round (by kernel_rfl) (by kernel_rfl) (by kernel_rfl) ?_; repeat (gi_big_quiet_step (fail)); refine wpQuietIn_nil ?_; rintro _ ⟨nq, rfl⟩'.
-/
import Derived.WalkKit
import Derived.OwnWalkIn
import Derived.Sort.QuietIn
namespace Go.Proofs.Ytihfcohebgemdaa
open Go.RowKit

def noDefer (l : List Oper) : Bool := l.all fun o => match o.op with
  | .defer _ => false
  | _ => true
theorem noDefer_at {ops : Array Oper} (h : noDefer ops.toList = true) {i : Nat} {o : Oper} (ho : ops[i]? = some o) : ∀ c, o.op ≠ .defer c := by
  intro c e
  unfold noDefer at h
  rw [List.all_eq_true] at h
  have hm : o ∈ ops.toList := by
    have := (Array.getElem?_eq_some_iff.1 ho)
    obtain ⟨hlt, he⟩ := this
    rw [← he]
    exact Array.getElem_mem_toList hlt
  have := h o hm
  rw [e] at this
  cases this

section
variable {F : Fence} {n : Nat} {P : Program} {ops : Array Oper} {md : Region.Mode} {C : World → Prop}

theorem oper_quiet {o : Oper} {a : Act} {K : Act → Prop} {K' : Act → World → Prop} {Q' : Exit → Act → World → Prop} {w : World} (hd : ∀ c, o.op ≠ .defer c) (hw : C w) (h : ∀ a w', C w' → K a → K' a w')
    (ha : o.askedIn F P a C) (hh : o.quietIn F n P a C K) : o.wpIn F n P a w K' Q' := by
  obtain ⟨v, h1, h2⟩ := hh
  have h3 := h1 w hw
  unfold Oper.quietAtIn at h3
  unfold Oper.wpIn
  refine ⟨ha w hw, ?_⟩
  rw [Oper.semAt_plain F _ _ hd]
  revert h3
  cases (execOp a.eval o).run P w with
  | halt x w' => intro h3; exact h3.elim
  | ok x w' =>
    cases x <;> intro h3
    case value u => obtain ⟨rfl, rfl⟩ := h3; exact h _ _ hw h2
    case skip => obtain ⟨rfl, rfl⟩ := h3; exact h _ _ hw h2
    case enter f args =>
      obtain ⟨rfl, hdp, hc⟩ := h3
      exact ⟨hdp, hc.mono fun e w'' ⟨he, hw''⟩ => by subst he; exact h _ _ hw'' h2⟩
    all_goals exact h3.elim
theorem op_quiet {i : Nat} {a : Act} {K : Act → Prop} {K' : Act → World → Prop} {Q' : Exit → Act → World → Prop} {w : World} (hnd : noDefer ops.toList = true) (hC : C w) (h : ∀ a w', C w' → K a → K' a w')
    (hh : qOpIn F n P ops C i K a) : wpOpIn F n P ops Q' i K' a w := by
  unfold qOpIn at hh
  unfold wpOpIn
  split
  · rename_i ho
    simp only [ho] at hh
    exact h _ _ hC hh
  · rename_i o ho
    simp only [ho] at hh
    obtain ⟨ha, hh⟩ := hh
    split
    · rename_i hw
      simp only [hw, if_true] at hh
      exact oper_quiet (noDefer_at hnd ho) hC h ha hh
    · rename_i hw
      simp only [hw] at hh
      exact ⟨ha w hC, h _ _ hC hh⟩
theorem any_quiet {Q : Act → Prop} {Q' : Exit → Act → World → Prop} (hnd : noDefer ops.toList = true) (hQ : ∀ a w, C w → Q a → Q' .normal a w) : ∀ (fuel : Nat) (listed : Array Bool) (a : Act) (w : World), C w →
    wpAnyQIn F n P md ops C Q fuel listed a → wpAnyIn F n P md ops Q' fuel listed a w
  | 0, _, _, _, hw, h => ⟨h.1, hQ _ _ hw h.2⟩
  | fuel + 1, _, _, _, hw, h => ⟨fun h0 => hQ _ _ hw (h.1 h0), fun i hi => op_quiet hnd hw (fun a' w' hw' => any_quiet hnd hQ fuel _ a' w' hw') (h.2 i hi)⟩
end

theorem wpIn_region_quiet_round {F : Fence} {n : Nat} {P : Program} {id : Nat} {Q : Exit → Act → World → Prop} {a : Act} {w : World} {l : List Oper} (hnd : noDefer l = true) (hm : P.follows .mixedOrders = true) (hB : Region.lexB .any l.toArray = true)
    (h : wpQuietIn F n P l.toArray (fun w' => ∃ n, w' = w.drewN n) (fun a' => ∀ w', (∃ n, w' = w.drewN n) → Q .normal a' w') l a) : (Code.region id l.toArray true).wpIn F n P Q a w := by
  simp only [Region.lexB, Bool.and_eq_true] at hB
  have h0 := wpAnyQIn_lex (F := F) (n := n) (P := P) (C := fun w' => ∃ n, w' = w.drewN n) (Q := fun a' => ∀ w', (∃ n, w' = w.drewN n) → Q .normal a' w') (md := .any) (ops := l.toArray) hB.1 l 0 (Array.replicate l.toArray.size false) a (by simp) (by simpa using hB.2) h
  have h1 : wpAnyIn F n P .any l.toArray Q l.length (Array.replicate l.toArray.size false) a { w with drawn := w.drawn + 1 } :=
    any_quiet (C := fun w' => ∃ n, w' = w.drewN n) (by simpa using hnd) (fun _ w' hw' hq => hq w' hw') _ _ _ _ ⟨1, rfl⟩ h0
  exact wpIn_region_any hm (by simpa using h1)
end Go.Proofs.Ytihfcohebgemdaa
