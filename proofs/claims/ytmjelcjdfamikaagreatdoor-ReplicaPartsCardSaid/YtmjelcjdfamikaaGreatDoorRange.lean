/- What walks of loops over iterators share: what is kept, what is collected. -/
import Derived.RangeFuncNested
import Derived.RangeFuncBound
import Derived.RangeFuncCalls
import Derived.RangeFuncLeaves
import Derived.RangeFuncBox
import Derived.Shelf.Abstract
import Derived.Shelf.RegionOpen
import Derived.OwnWalkIn
import Derived.TacticsInMore
import Derived.LoopNIn
import Derived.LoopIn
import Derived.Maps.AppendAt
import Derived.Deep.AppendLies
import Derived.Test.YtmjelcjdfamikaaGreatDoorLst
set_option linter.unusedSimpArgs false
set_option linter.unusedVariables false
namespace Go.Proofs.YtmjelcjdfamikaaGreatDoor
open Go.RowKit Go.Shelf

theorem abides_below {β : Type} {B : Nat} {J : β → World → Prop} (h : AbidesFrom B J) {x : β} {A C : World} (hs : J x A) (hb : Below A.heap.size A C) : J x C :=
  h x A C none hs ⟨hb.os, hb.tape, hb.output, hb.size, fun i hi _ => hb.block i hi⟩ (fun r e => by cases e)

/-- A round keeps a block of cells. -/
def Keep (B : Nat) (A C : World) : Prop := A.heap.size ≤ C.heap.size ∧ ∀ o, C.cell? ⟨B, o, none⟩ = A.cell? ⟨B, o, none⟩
theorem Keep.trans {B : Nat} {A C D : World} (h : Keep B A C) (k : Keep B C D) : Keep B A D := ⟨Nat.le_trans h.1 k.1, fun o => (k.2 o).trans (h.2 o)⟩
theorem Keep.below {B n : Nat} {A C : World} (h : Below n A C) (hB : B < n) : Keep B A C := ⟨h.size, fun o => h.cell (p := ⟨B, o, none⟩) hB⟩
theorem Keep.put {B : Nat} {w : World} (hB : B < w.heap.size) (W : World) (l : Nat) (o o' : Obj) (hl : w.heap.size ≤ l) (_ : W.heap[l]? = some o) (_ : o.isCells = false) (_ : o.isWalk = false) : Keep B W (W.putObj l o') :=
  ⟨by simp, fun x => World.cell?_of_block (w := W) ((grownBy_putObj' W l o').block B (by have := (Array.getElem?_eq_some_iff.1 ‹W.heap[l]? = some o›).1; omega) (by simp; omega))⟩
theorem Keep.refl (B : Nat) (A : World) : Keep B A A := ⟨Nat.le_refl _, fun _ => rfl⟩
theorem Keep.grown {B : Nat} {A C : World} {row : Option Nat} (h : A.grownBy C row) (hB : B < A.heap.size) (hr : row ≠ some B) : Keep B A C := ⟨h.size, fun o => World.cell?_of_block (w := A) (h.block B hB (fun e => hr e.symm))⟩

theorem wpListIn_append_lies {F : Fence} {n : Nat} {P : Program} (w : World) {ops : Array Oper} {rest : List Oper} {o : Oper} {a : Act} {Q : Exit → Act → World → Prop}
    (hg : o.guard = none) (s x : Operand) (t : TypeId) (hop : o.op = Op.call { callee := Callee.builtin Builtin.append, args := #[s, x], argTypes := #[t, t] })
    (base : Nat) (e : TypeId) (i : TypeInfo) (z : Value) (size bytes : Nat) (h1 : P.underlying t = some (.slice e)) (h2 : P.info? e = some i) (h3 : i.zero = some z) (h4 : i.size = size) (h5 : i.bytes = bytes) (h6 : z.cells.size = size) (h7 : 0 < size)
    (v : Value) (k : Nat) (xs : List Value) (hs : a.eval s = v) (hown : w.ownsRow base e size v k xs) (ad : Addr) (m c : Nat) (news : List Value) (hx : a.eval x = .slice (some ad) m c) (hn : news.length = m * size)
    (hc : ∀ j u, news[j]? = some u → w.cell? (ad.add j) = some u) (h1c : ∀ u ∈ news, u.oneCell' = true) (hm : 0 < m) (b1 : k + m ≤ maxLen) (b2 : (k + m) * bytes ≤ 140737488355328) (b3 : base ≤ w.heap.size) (H : Nat) (hH : w.heap.size = H)
    (hK : ∀ g cap w', w'.ownsRow base e size (.slice (some ⟨g, 0, none⟩) (k + m) cap) (k + m) (xs ++ news) → w.grownBy w' v.ownBlock → (v.ownBlock = some g ∨ g = H) → g < w'.heap.size → wpListIn F n P ops Q rest (a.put o.dst (.slice (some ⟨g, 0, none⟩) (k + m) cap)) w') :
    wpListIn F n P ops Q (o :: rest) a w := by
  refine wpListIn_plain hg fun K hK' => ?_
  obtain ⟨g, cap, w', hrun, r1, r2, r3, r4⟩ := run_append_lies (P := P) (w := w) t o.type base e i z size bytes h1 h2 h3 h4 h5 h6 h7 v k xs hown ad m c news hn hc h1c hm b1 b2 b3 H hH
  unfold Oper.wpIn
  refine ⟨?_, ?_⟩
  · simp [Oper.about, hop, resolve, Target.leads, Sem.run_pure]
  · rw [Oper.semAt_plain F _ _ (by rw [hop]; intro c hc'; cases hc')]
    simp [execOp, hop, resolve, invoke, builtin, hs, hx, hrun, Result.andThen]
    exact hK' _ _ (hK g cap w' r1 r2 r3 r4)

/-- A function value against nil. -/
theorem eq_nilFunc {P : Program} {t : TypeId} {a b : Array TypeId} {c : Bool} (ht : P.underlying t = some (.func a b c)) (g : Fn) (lb : Array Value) (w : World) : (binOp .eql t (.func g #[] lb) .nilFunc).run P w = .ok (.bool false) w := by
  have h : binOp .eql t (.func g #[] lb) .nilFunc = (do pure (.bool (← Op.equal t (.func g #[] lb) .nilFunc))) := rfl
  rw [h]
  unfold Op.equal Op.maxDepth
  simp only [Sem.run_bind]
  have h2 : (Op.equalIn 10000 t (.func g #[] lb) .nilFunc).run P w = .ok false w := by
    rw [Op.equalIn]
    simp only [Sem.run_bind, run_underlying ht, Result.andThen_ok]
    rfl
  rw [h2]
  rfl

/-- Two rows of the call's own, each in another's block than the other one. -/
def Apart (v1 v2 : Value) : Prop := ∀ g, v1.ownBlock = some g → v2.ownBlock ≠ some g
theorem Apart.symm {v1 v2 : Value} (h : Apart v1 v2) : Apart v2 v1 := fun g h1 h2 => h g h2 h1
theorem Apart.kept {v1 v2 : Value} (h : Apart v1 v2) : v2.ownBlock = none ∨ v2.ownBlock ≠ v1.ownBlock := by
  cases h2 : v2.ownBlock with
  | none => exact Or.inl rfl
  | some k => exact Or.inr fun h3 => h k h3.symm h2
theorem Apart.grown {W : World} {base : Nat} {e : TypeId} {size : Nat} {v1 v2 : Value} {n k cap g : Nat} {xs : List Value} (h : Apart v1 v2) (h2 : W.ownsRow base e size v2 n xs) (hat : v1.ownBlock = some g ∨ g = W.heap.size) : Apart (.slice (some ⟨g, 0, none⟩) k cap) v2 := by
  intro j hj h3
  have hj : some g = some j := hj
  cases hj
  rcases hat with h1 | h1
  · exact h g h1 h3
  · have := (World.ownsRow.lt h2 g h3).2
    omega
theorem box_below {W W' : World} {B : Nat} {t : TypeId} {v : Value} (h : Boxed W B t v) (hb : Below W.heap.size W W') : Boxed W' B t v := (hb.block B h.lt).trans h
theorem cell_one_at (w : World) (x : Value) (t : TypeId) (H : Nat) (hH : w.heap.size = H) : ∀ j u, [x][j]? = some u → (w.alloc (.cells #[x] t)).cell? ((⟨H, 0, none⟩ : Addr).add j) = some u := by
  subst hH; exact cell_one_new w x t
theorem row_form {W : World} {base : Nat} {e : TypeId} {size : Nat} {v : Value} {n : Nat} {xs : List Value} (h : W.ownsRow base e size v n xs) : ∃ ao cap, v = .slice ao n cap := by
  rcases h.2 with ⟨rfl, rfl⟩ | ⟨g, cap, cur, rfl, _⟩
  · exact ⟨_, _, rfl⟩
  · exact ⟨_, _, rfl⟩
theorem own_row {W W' : World} {row : Option Nat} {base : Nat} {e : TypeId} {size : Nat} {v : Value} {n : Nat} {xs : List Value} (h : W.ownsRow base e size v n xs) (hg : W.grownBy W' row) (hr : ∀ r, row = some r → ∃ o : Obj, W.heap[r]? = some o ∧ o.isCells = false) : W'.ownsRow base e size v n xs := by
  refine h.kept hg ?_
  rcases h.2 with ⟨rfl, _⟩ | ⟨g, cap, cur, rfl, _, hgb, _⟩
  · exact .inl rfl
  · refine .inr fun e' => ?_
    obtain ⟨o, ho, hc⟩ := hr g (by simpa [Value.ownBlock] using e'.symm)
    rw [hgb] at ho; cases ho; cases hc
theorem own_box {W W' : World} {row : Option Nat} {B : Nat} {t : TypeId} {v : Value} (h : Boxed W B t v) (hg : W.grownBy W' row) (hr : ∀ r, row = some r → ∃ o : Obj, W.heap[r]? = some o ∧ o.isCells = false) : Boxed W' B t v :=
  h.kept hg fun e' => by
    obtain ⟨o, ho, hc⟩ := hr B e'.symm
    rw [show W.heap[B]? = _ from h] at ho; cases ho; cases hc

theorem own_base {W : World} {n₀ β : Nat} {e : TypeId} {size : Nat} {v : Value} {n : Nat} {xs : List Value} (h : W.ownsRow β e size v n xs) (hb : n₀ ≤ β) : W.ownsRow n₀ e size v n xs := by
  refine ⟨h.1, ?_⟩
  rcases h.2 with h2 | ⟨g, cap, cur, h1, h2, h3⟩
  · exact .inl h2
  · exact .inr ⟨g, cap, cur, h1, Nat.le_trans hb h2, h3⟩

/-- 'out = append(out, x)' where out lies in a box: what the walk owes behind the store. -/
theorem appended {W w1 : World} {n₀ β B : Nat} {t e : TypeId} {size : Nat} {v v' : Value} {k m : Nat} {xs ys : List Value} {tmp : Obj}
    (hv : Boxed W B t v) (hte : t ≠ e) (hrow : W.ownsRow β e size v k xs) (hn₀ : n₀ ≤ β) (hβ : β ≤ W.heap.size) (hB : n₀ ≤ B)
    (hown' : w1.ownsRow β e size v' m ys) (hgrow : (W.alloc tmp).grownBy w1 v.ownBlock) :
    Boxed w1 B t v ∧ Boxed (w1.setCell ⟨B, 0, none⟩ v') B t v' ∧ (w1.setCell ⟨B, 0, none⟩ v').ownsRow β e size v' m ys ∧ KeepsOthers W (w1.setCell ⟨B, 0, none⟩ v') ∧ Below n₀ W (w1.setCell ⟨B, 0, none⟩ v') ∧
      ∀ b, b < β → b ≠ B → Keep b W (w1.setCell ⟨B, 0, none⟩ v') := by
  obtain ⟨a1, a2, a3, a4, a5⟩ := hv.appended hte (own_base hrow hn₀) (Nat.le_trans hn₀ hβ) hB (own_base hown' hn₀) hgrow
  refine ⟨a1, a2, hown'.kept (grownBy_setCell' w1 B v') (.inr (a1.not_row hte hown').symm), a4, a5, fun b hb hne => ?_⟩
  refine Keep.trans (Keep.below ((Below.refl _ W).alloc (Nat.le_refl _) tmp) (Nat.lt_of_lt_of_le hb hβ)) (Keep.trans (Keep.grown hgrow (by simp; omega) fun e' => ?_) (Keep.grown (grownBy_setCell' w1 B v') (by have := hgrow.size; simp at this; omega) (by simp; omega)))
  have := (World.ownsRow.lt hrow b e').1
  omega

/-- .. and what it leaves of another box, and of another row. -/
theorem beside {W w1 : World} {β B B2 : Nat} {t e : TypeId} {size : Nat} {v v2 v' : Value} {k n2 : Nat} {xs xs2 : List Value} {tmp : Obj}
    (hv2 : Boxed W B2 t v2) (hv : Boxed W B t v) (hne : B2 ≠ B) (hte : t ≠ e) (hrow : W.ownsRow β e size v k xs) (hrow2 : W.ownsRow β e size v2 n2 xs2) (hap : Apart v v2) (hgrow : (W.alloc tmp).grownBy w1 v.ownBlock) :
    Boxed w1 B2 t v2 ∧ Boxed (w1.setCell ⟨B, 0, none⟩ v') B2 t v2 ∧ (w1.setCell ⟨B, 0, none⟩ v').ownsRow β e size v2 n2 xs2 := by
  have h1 : Boxed w1 B2 t v2 := (hv2.alloc tmp).kept hgrow (hv2.not_row hte hrow)
  refine ⟨h1, h1.kept (grownBy_setCell' w1 B v') (by simp; omega), ?_⟩
  have hv1 : Boxed w1 B t v := (hv.alloc tmp).kept hgrow (hv.not_row hte hrow)
  have hr1 : w1.ownsRow β e size v2 n2 xs2 := (hrow2.alloc tmp).kept hgrow hap.kept
  exact hr1.kept (grownBy_setCell' w1 B v') (.inr (hv1.not_row hte hr1).symm)
end Go.Proofs.YtmjelcjdfamikaaGreatDoor
