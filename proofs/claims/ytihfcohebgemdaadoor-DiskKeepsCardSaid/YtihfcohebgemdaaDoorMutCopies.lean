/- MutClone, MutCopy, MutFind: in one text. -/
import Derived.Test.YtihfcohebgemdaaDoorMutRows
import Derived.Laws.Rows
import Derived.Laws.Tables
import Derived.Laws.CopyOwn
set_option linter.unusedSimpArgs false
set_option linter.unusedVariables false
/- The walks of slices.Clone at stamps and at mutations. -/
namespace Go.Proofs.YtihfcohebgemdaaDoor.Mut
open Go.RowKit Go.Sort Go.Proofs.YtihfcohebgemdaaDoor.Ord
set_option linter.unusedSectionVars false
variable [Inhabited Lim]

/-- A row comes back, which the call has made. -/
def OwnP {α : Type} (e : TypeId) (sz : Nat) (en : α → List Value) (w : World) (l : List α) (r : Ending) (w' : World) : Prop := ∃ v, r = .returned v ∧ w'.ownsRow w.heap.size e sz v l.length (l.flatMap en) ∧ Below w.heap.size w w'
def zeroM : Value := .agg #[.int .i64 0, .int .i64 0, .string ByteArray.empty, .string ByteArray.empty, .string ByteArray.empty, .int .i64 0, .int .i64 0, .int .i64 0, .int .i64 0, .slice none 0 0]
theorem flatS_one (l : List Stp) : ∀ u ∈ l.flatMap enS, u.oneCell' = true := by
  intro u hu
  obtain ⟨x, _, h⟩ := List.mem_flatMap.1 hu
  simp at h
  rcases h with rfl | rfl | rfl <;> rfl
theorem flatM_one {l : List Ro} (hl : ∀ x ∈ l, ∃ ao n cap, x.2 = .slice ao n cap) : ∀ u ∈ l.flatMap enM, u.oneCell' = true := by
  intro u hu
  obtain ⟨x, hx, h⟩ := List.mem_flatMap.1 hu
  obtain ⟨ao, n, cap, e⟩ := hl x hx
  unfold enM at h
  simp at h
  rcases h with rfl | rfl | rfl | rfl | rfl | rfl | rfl | rfl | rfl | rfl <;> first | rfl | (rw [e]; rfl)
theorem MRow.forms {w : World} {v : Value} {R : List Ro} (h : MRow w v R) : ∀ x ∈ R, ∃ ao n cap, x.2 = .slice ao n cap := fun x hx => by
  obtain ⟨ao, cap, e, -, -⟩ := (h.over x hx).form
  exact ⟨ao, _, cap, e⟩

end Go.Proofs.YtihfcohebgemdaaDoor.Mut

/- The walks of mut.Copy and mut.Copies (layer 7). -/
namespace Go.Proofs.YtihfcohebgemdaaDoor.Mut
open Go.RowKit Go.Sort Go.Proofs.YtihfcohebgemdaaDoor.Ord
set_option linter.unusedSectionVars false
variable [Inhabited Lim]

theorem row_below {w w' : World} {base : Nat} {e : TypeId} {size : Nat} {v : Value} {n : Nat} {xs : List Value} (h : w.ownsRow base e size v n xs) (hb : RowKit.Below w.heap.size w w') : w'.ownsRow base e size v n xs :=
  World.ownsRow.kept h (row := none) ⟨hb.os, hb.tape, hb.output, hb.size, fun i hi _ => hb.block i hi⟩ (by cases v.ownBlock <;> simp)
end Go.Proofs.YtihfcohebgemdaaDoor.Mut

/- The walks of slices.IndexFunc, slices.ContainsFunc at mutations. -/
namespace Go.Proofs.YtihfcohebgemdaaDoor.Mut
open Go.RowKit Go.Sort Go.Proofs.YtihfcohebgemdaaDoor.Ord
set_option linter.unusedSectionVars false
variable [Inhabited Lim]

/-- A function value answers whether something is so of a mutation, in each world that came of w₀ but for one block; it leaves what is there. -/
def Asks (w₀ : World) (row : Option Nat) (g : FuncId) (cb : Array Value) (p : Mu → Bool) : Prop :=
  ∀ (x : Ro) (w : World), w₀.grownBy w row → (∃ ao n cap, x.2 = .slice ao n cap) → Calls Tryd.prog g (#[vM x] ++ cb) w fun e w' => e = .returned (.bool (p x.1)) ∧ RowKit.Below w.heap.size w w'
theorem grown_below {w w' : World} (hb : RowKit.Below w.heap.size w w') (row : Option Nat) : w.grownBy w' row := ⟨hb.os, hb.tape, hb.output, hb.size, fun i hi _ => hb.block i hi⟩
theorem grown_then {a b c : World} {row : Option Nat} (h : a.grownBy b row) (hb : RowKit.Below b.heap.size b c) : a.grownBy c row :=
  ⟨hb.os.trans h.os, hb.tape.trans h.tape, hb.output.trans h.output, Nat.le_trans h.size hb.size, fun i hi hne => (hb.block i (Nat.lt_of_lt_of_le hi h.size)).trans (h.block i hi hne)⟩
theorem Asks.later {w w' : World} {row : Option Nat} {g : FuncId} {cb : Array Value} {p : Mu → Bool} (h : Asks w row g cb p) (hg : w.grownBy w' row) : Asks w' row g cb p := fun x z hz hx =>
  h x z ⟨hz.os.trans hg.os, hz.tape.trans hg.tape, hz.output.trans hg.output, Nat.le_trans hg.size hz.size, fun i hi hne => (hz.block i (Nat.lt_of_lt_of_le hi hg.size) hne).trans (hg.block i hi hne)⟩ hx

/-- The place of the first of which something is so, counted from i; below 0: none. -/
def idxF (p : Mu → Bool) : List Mu → Nat → Int
  | [], _ => -1
  | x :: l, i => if p x then i else idxF p l (i + 1)
theorem idxF_none {p : Mu → Bool} : ∀ (l : List Mu) (i : Nat), idxF p l i = -1 ↔ ∀ x ∈ l, p x = false
  | [], i => by simp [idxF]
  | x :: l, i => by
    rw [idxF]
    cases h : p x
    · simp only [Bool.false_eq_true, if_false]
      rw [idxF_none l (i + 1)]; simp [h]
    · simp [h]
theorem idxF_some {p : Mu → Bool} : ∀ (l : List Mu) (i : Nat), ¬ idxF p l i = -1 → ∃ a x b, l = a ++ x :: b ∧ p x = true ∧ (∀ y ∈ a, p y = false) ∧ idxF p l i = (i + a.length : Nat)
  | [], i, h => absurd rfl h
  | x :: l, i, h => by
    rw [idxF] at h ⊢
    cases hp : p x
    · rw [hp] at h
      obtain ⟨a, y, b, e1, e2, e3, e4⟩ := idxF_some l (i + 1) h
      exact ⟨x :: a, y, b, by rw [e1]; rfl, e2, fun z hz => (by
        rcases List.mem_cons.1 hz with rfl | hz
        · exact hp
        · exact e3 z hz), (by simp only [Bool.false_eq_true, if_false, e4, List.length_cons]; omega)⟩
    · exact ⟨[], x, l, rfl, hp, fun _ h => (by cases h), by simp⟩
theorem idxF_any {p : Mu → Bool} (l : List Mu) : decide (0 ≤ idxF p l 0) = l.any p := by
  by_cases h : idxF p l 0 = -1
  · have h2 := (idxF_none l 0).1 h
    rw [h]
    have : l.any p = false := by rw [List.any_eq_false]; intro x hx; rw [h2 x hx]; decide
    rw [this]; rfl
  · obtain ⟨a, x, b, e1, e2, -, e4⟩ := idxF_some l 0 h
    rw [e4, e1]
    simp [e2]

end Go.Proofs.YtihfcohebgemdaaDoor.Mut
