/- A slice in memory that reads as a list: each element's cells are told by a function. What the call itself has built by append reads so, and goes on reading so while nothing below the heap's end turns. -/
import Derived.Test.YtmjelcjdfamikaaGreatDoorCalmTail
set_option linter.unusedSimpArgs false
set_option linter.unusedVariables false
namespace Go.Proofs.YtmjelcjdfamikaaGreatDoor
open Go.RowKit

/-- The value v is a slice whose elements are l; element x lies in sz cells, which are 'en x'. -/
def Lst {α : Type} (sz : Nat) (en : α → List Value) (w : World) (v : Value) (l : List α) : Prop :=
  ∃ ao cap, v = .slice ao l.length cap ∧ l.length ≤ cap ∧ cap ≤ maxLen ∧ (l.length = 0 ∨ ∃ b off, ao = some ⟨b, off, none⟩ ∧ b < w.heap.size ∧ ∀ i x, l[i]? = some x → ∀ j, j < sz → w.cell? ⟨b, off + i * sz + j, none⟩ = (en x)[j]?)

section
variable {α : Type} {sz : Nat} {en : α → List Value} {w w' : World} {v : Value} {l : List α}

theorem Lst.nil (w : World) : Lst sz en w (.slice none 0 0) [] := ⟨none, 0, rfl, Nat.le_refl _, Nat.zero_le _, Or.inl rfl⟩

theorem Lst.below (h : Lst sz en w v l) (hb : Below w.heap.size w w') : Lst sz en w' v l := by
  obtain ⟨ao, cap, hv, h1, h2, h3⟩ := h
  refine ⟨ao, cap, hv, h1, h2, ?_⟩
  rcases h3 with h3 | ⟨b, off, ha, hlt, hc⟩
  · exact Or.inl h3
  · exact Or.inr ⟨b, off, ha, Nat.lt_of_lt_of_le hlt hb.size, fun i x hi j hj => (hb.cell (p := ⟨b, off + i * sz + j, none⟩) hlt).trans (hc i x hi j hj)⟩

theorem Lst.drewN (h : Lst sz en w v l) (n : Nat) : Lst sz en (w.drewN n) v l := h.below (below_drewN (Below.refl _ _) n)
theorem Lst.alloc (h : Lst sz en w v l) (o : Obj) : Lst sz en (w.alloc o) v l := h.below ((Below.refl _ _).alloc (Nat.le_refl _) o)

theorem flatMap_get (hen : ∀ x, (en x).length = sz) (l : List α) : ∀ i x, l[i]? = some x → ∀ j, j < sz → (l.flatMap en)[i * sz + j]? = (en x)[j]? := by
  induction l with
  | nil => intro i x h; simp at h
  | cons y l ih =>
    intro i x h j hj
    rw [List.flatMap_cons]
    cases i with
    | zero =>
      obtain rfl : y = x := by simpa using h
      rw [List.getElem?_append_left (by rw [hen]; omega)]
      simp
    | succ i =>
      rw [List.getElem?_append_right (by rw [hen, Nat.succ_mul]; omega), hen, show (i + 1) * sz + j - sz = i * sz + j by rw [Nat.succ_mul]; omega]
      exact ih i x (by simpa using h) j hj

theorem flatMap_len (hen : ∀ x, (en x).length = sz) (l : List α) : (l.flatMap en).length = l.length * sz := by
  induction l with
  | nil => simp
  | cons y l ih => rw [List.flatMap_cons, List.length_append, hen, ih, List.length_cons, Nat.succ_mul]; omega

/-- What the call has built by append. -/
theorem Lst.of_owns {base : Nat} {e : TypeId} (hen : ∀ x, (en x).length = sz) (hsz : 0 < sz) (h : w.ownsRow base e sz v l.length (l.flatMap en)) : Lst sz en w v l := by
  have h0 := h
  obtain ⟨h1, h2⟩ := h
  rcases h2 with ⟨rfl, hl⟩ | ⟨g, cap, cur, rfl, hg, hh, hc1, hc2, r⟩
  · exact ⟨none, 0, by rw [hl], by omega, Nat.zero_le _, Or.inl hl⟩
  · refine ⟨some ⟨g, 0, none⟩, cap, rfl, hc1, hc2, Or.inr ⟨g, 0, rfl, (Array.getElem?_eq_some_iff.1 hh).1, fun i x hi j hj => ?_⟩⟩
    have hil : i < l.length := (List.getElem?_eq_some_iff.1 hi).1
    have hlt : i * sz + j < l.length * sz := by
      calc i * sz + j < i * sz + sz := by omega
        _ = (i + 1) * sz := by rw [Nat.succ_mul]
        _ ≤ l.length * sz := Nat.mul_le_mul_right _ hil
    rw [Nat.zero_add, h0.cellAt _ hlt]
    exact flatMap_get hen l i x hi j hj

/-- An element's cells. -/
theorem Lst.get {ao : Option Addr} {n cap : Nat} (h : Lst sz en w (.slice ao n cap) l) {i : Nat} (hi : i < l.length) :
    ∃ b off, ao = some ⟨b, off, none⟩ ∧ b < w.heap.size ∧ ∀ j, j < sz → w.cell? ⟨b, off + i * sz + j, none⟩ = (en l[i])[j]? := by
  obtain ⟨ao', cap', hv, h1, h2, h3⟩ := h
  cases hv
  rcases h3 with h3 | ⟨b, off, ha, hlt, hc⟩
  · omega
  · exact ⟨b, off, ha, hlt, hc i _ (List.getElem?_eq_getElem hi)⟩
theorem Lst.len {ao : Option Addr} {n cap : Nat} (h : Lst sz en w (.slice ao n cap) l) : n = l.length := by
  obtain ⟨ao', cap', hv, _⟩ := h
  cases hv; rfl
theorem Lst.form (h : Lst sz en w v l) : ∃ ao cap, v = .slice ao l.length cap ∧ l.length ≤ cap ∧ cap ≤ maxLen := by
  obtain ⟨ao, cap, hv, h1, h2, _⟩ := h
  exact ⟨ao, cap, hv, h1, h2⟩

/-- The slice without its first element. -/
theorem Lst.tail {b off n cap : Nat} {x : α} (h : Lst sz en w (.slice (some ⟨b, off, none⟩) n cap) (x :: l)) {ao : Option Addr} (ha : l.length = 0 ∨ ao = some ⟨b, off + sz, none⟩) : Lst sz en w (.slice ao l.length (cap - 1)) l := by
  obtain ⟨ao', cap', hv, h1, h2, h3⟩ := h
  cases hv
  refine ⟨ao, cap - 1, rfl, by simp at h1; omega, by omega, ?_⟩
  rcases ha with ha | ha
  · exact Or.inl ha
  rcases h3 with h3 | ⟨b', off', ha', hlt, hc⟩
  · simp at h3
  · cases ha'
    refine Or.inr ⟨b, off + sz, ha, hlt, fun i y hi j hj => ?_⟩
    have := hc (i + 1) y (by simpa using hi) j hj
    rw [← this]
    congr 2
    rw [Nat.succ_mul]; omega
end
end Go.Proofs.YtmjelcjdfamikaaGreatDoor
