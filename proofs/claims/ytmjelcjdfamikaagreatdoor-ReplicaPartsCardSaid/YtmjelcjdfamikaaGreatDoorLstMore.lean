/- More on slices that read as lists: their cells in one row; a row of structs of three cells, one element turned; what lives on. -/
import Derived.Test.YtmjelcjdfamikaaGreatDoorRange
import Derived.Laws.OwnMore
set_option linter.unusedSimpArgs false
set_option linter.unusedVariables false
namespace Go.Proofs.YtmjelcjdfamikaaGreatDoor
open Go.RowKit

theorem addr_add (b off k : Nat) : (⟨b, off, none⟩ : Addr).add k = ⟨b, off + k, none⟩ := by
  unfold Addr.add
  split <;> simp_all

theorem Lst.news {α : Type} {sz : Nat} {en : α → List Value} {w : World} {a : Addr} {n cap : Nat} {l : List α} (hen : ∀ x, (en x).length = sz) (hsz : 0 < sz) (h : Lst sz en w (.slice (some a) n cap) l) :
    ∀ j u, (l.flatMap en)[j]? = some u → w.cell? (a.add j) = some u := by
  intro j u hj
  have hlt : j < (l.flatMap en).length := (List.getElem?_eq_some_iff.1 hj).1
  rw [flatMap_len hen] at hlt
  have hd : j / sz < l.length := by rw [Nat.div_lt_iff_lt_mul hsz]; exact hlt
  obtain ⟨b, off, e, hb, hc⟩ := Lst.get h hd
  cases e
  have hm := Nat.mod_lt j hsz
  have hj2 : j / sz * sz + j % sz = j := by rw [Nat.mul_comm]; exact Nat.div_add_mod j sz
  have h1 := hc (j % sz) hm
  have h2 := flatMap_get hen l (j / sz) _ (List.getElem?_eq_getElem hd) (j % sz) hm
  rw [hj2] at h2
  rw [Nat.add_assoc, hj2, ← h2, hj] at h1
  rw [addr_add]
  exact h1

theorem flat_set3 {α : Type} (f g h : α → Value) (l : List α) : ∀ (i : Nat) (x : α), ((((l.flatMap fun y => [f y, g y, h y]).set (i * 3) (f x)).set (i * 3 + 1) (g x)).set (i * 3 + 2) (h x)) = (l.set i x).flatMap fun y => [f y, g y, h y] := by
  induction l with
  | nil => intro i x; simp
  | cons y l ih =>
    intro i x
    cases i with
    | zero => simp
    | succ i =>
      have := ih i x
      rw [List.set_cons_succ, List.flatMap_cons, List.flatMap_cons, ← this, show (i + 1) * 3 = i * 3 + 1 + 1 + 1 by omega]
      simp only [List.cons_append, List.nil_append, List.set_cons_succ]

/-- A row that the call has made is a slice that reads as a list. -/
theorem Lst.owned {α : Type} {sz base : Nat} {en : α → List Value} {w : World} {e : TypeId} {v : Value} {l : List α} {n : Nat} (hen : ∀ x, (en x).length = sz) (hsz : 0 < sz) (hn : n = l.length) (h : w.ownsRow base e sz v n (l.flatMap en)) : Lst sz en w v l := by
  subst hn; exact Lst.of_owns hen hsz h

/-- Rows of two kinds lie in two blocks. -/
theorem rows_apart {W : World} {b1 b2 : Nat} {e1 e2 : TypeId} {s1 s2 n1 n2 : Nat} {v1 v2 : Value} {x1 x2 : List Value} (h1 : W.ownsRow b1 e1 s1 v1 n1 x1) (h2 : W.ownsRow b2 e2 s2 v2 n2 x2) (hne : e1 ≠ e2) : v1.ownBlock = none ∨ v1.ownBlock ≠ v2.ownBlock := by
  rcases h1.2 with ⟨rfl, _⟩ | ⟨g, cap, cur, rfl, _, hg, _⟩
  · exact Or.inl rfl
  rcases h2.2 with ⟨rfl, _⟩ | ⟨g', cap', cur', rfl, _, hg', _⟩
  · exact Or.inr (by simp [Value.ownBlock])
  · refine Or.inr fun e => ?_
    have e : g = g' := by simpa [Value.ownBlock] using e
    subst e
    have := hg.symm.trans hg'
    simp at this
    exact hne this.2
end Go.Proofs.YtmjelcjdfamikaaGreatDoor
