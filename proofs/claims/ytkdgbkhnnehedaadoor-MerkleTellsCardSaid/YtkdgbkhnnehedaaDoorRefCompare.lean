/- RefCmp, RefCmp2: in one text. -/
import Derived.Test.YtkdgbkhnnehedaaDoorMutRows
import Derived.Test.YtkdgbkhnnehedaaDoorMutRights
import Derived.Deep.RegionHeld3
set_option linter.unusedSimpArgs false
set_option linter.unusedVariables false
/- The walks of the references' comparisons (layers 4, 7): cenotaphref04.Compare, Less; cenotaphref07.number, Text, rows, Compare. -/
namespace Go.Proofs.YtkdgbkhnnehedaaDoor.Mut
open Go.RowKit Go.Sort Go.Proofs.YtkdgbkhnnehedaaDoor.Ord
set_option linter.unusedSectionVars false
variable [Inhabited Lim]

theorem rowC_drop {a b : List Stp} {k : Nat} {x y : Stp} (hx : a[k]? = some x) (hy : b[k]? = some y) : rowC stC (a.drop k) (b.drop k) = if stC x y = 0 then rowC stC (a.drop (k + 1)) (b.drop (k + 1)) else stC x y := by
  obtain ⟨h1, e1⟩ := List.getElem?_eq_some_iff.1 hx
  obtain ⟨h2, e2⟩ := List.getElem?_eq_some_iff.1 hy
  rw [List.drop_eq_getElem_cons h1, List.drop_eq_getElem_cons h2, rowC, e1, e2]
theorem rowC_end {a b : List Stp} {k : Nat} (h1 : k ≤ a.length) (h2 : k ≤ b.length) (h : ¬ (k < a.length ∧ k < b.length)) : rowC stC (a.drop k) (b.drop k) = cmpI a.length b.length := by
  by_cases ha : k < a.length
  · have hb : k = b.length := by omega
    rw [hb, List.drop_length, ← hb, List.drop_eq_getElem_cons ha, rowC]
    unfold cmpI; rw [if_neg (by omega), if_pos (by omega)]
  · have ha : k = a.length := by omega
    by_cases hb : k < b.length
    · rw [ha, List.drop_length, ← ha, List.drop_eq_getElem_cons hb, rowC]
      unfold cmpI; rw [if_pos (by omega)]
    · have hb : k = b.length := by omega
      have e : a.drop k = [] := List.drop_of_length_le (by omega)
      have e2 : b.drop k = [] := List.drop_of_length_le (by omega)
      rw [e, e2, rowC]
      unfold cmpI; rw [if_neg (by omega), if_neg (by omega)]

end Go.Proofs.YtkdgbkhnnehedaaDoor.Mut

/- The walk of cenotaphref07.Compare (layer 7). PRINTED by wip/genrefcmp.py. -/
namespace Go.Proofs.YtkdgbkhnnehedaaDoor.Mut
open Go.RowKit Go.Sort Go.Proofs.YtkdgbkhnnehedaaDoor.Ord
set_option linter.unusedSectionVars false
variable [Inhabited Lim]

/-- Eight cells of a variable of the call's own. -/
structure K8 (w : World) (k : Nat) : Prop where
  lt : k < w.heap.size
  c0 : ∃ v, w.cell? ⟨k, 0, none⟩ = some (.int .i64 v)
  c1 : ∃ v, w.cell? ⟨k, 1, none⟩ = some (.int .i64 v)
  c2 : ∃ v, w.cell? ⟨k, 2, none⟩ = some (.int .i64 v)
  c3 : ∃ v, w.cell? ⟨k, 3, none⟩ = some (.int .i64 v)
  c4 : ∃ v, w.cell? ⟨k, 4, none⟩ = some (.int .i64 v)
  c5 : ∃ v, w.cell? ⟨k, 5, none⟩ = some (.int .i64 v)
  c6 : ∃ v, w.cell? ⟨k, 6, none⟩ = some (.int .i64 v)
  c7 : ∃ v, w.cell? ⟨k, 7, none⟩ = some (.int .i64 v)
  f0 : w.frozen? ⟨k, 0, none⟩ = false
  f1 : w.frozen? ⟨k, 1, none⟩ = false
  f2 : w.frozen? ⟨k, 2, none⟩ = false
  f3 : w.frozen? ⟨k, 3, none⟩ = false
  f4 : w.frozen? ⟨k, 4, none⟩ = false
  f5 : w.frozen? ⟨k, 5, none⟩ = false
  f6 : w.frozen? ⟨k, 6, none⟩ = false
  f7 : w.frozen? ⟨k, 7, none⟩ = false
theorem K8.below {w w' : World} {k : Nat} (h : K8 w k) (hb : RowKit.Below w.heap.size w w') : K8 w' k := by
  have e : ∀ o, w'.cell? ⟨k, o, none⟩ = w.cell? ⟨k, o, none⟩ := fun o => hb.cell (p := ⟨k, o, none⟩) h.lt
  have f : ∀ o, w'.frozen? ⟨k, o, none⟩ = w.frozen? ⟨k, o, none⟩ := fun o => hb.frozen (p := ⟨k, o, none⟩) h.lt
  exact ⟨Nat.lt_of_lt_of_le h.lt hb.size, (e _).symm ▸ h.c0, (e _).symm ▸ h.c1, (e _).symm ▸ h.c2, (e _).symm ▸ h.c3, (e _).symm ▸ h.c4, (e _).symm ▸ h.c5, (e _).symm ▸ h.c6, (e _).symm ▸ h.c7, (f _).trans h.f0, (f _).trans h.f1, (f _).trans h.f2, (f _).trans h.f3, (f _).trans h.f4, (f _).trans h.f5, (f _).trans h.f6, (f _).trans h.f7⟩
/-- Eight numbers in a variable. -/
structure N8 (w : World) (k : Nat) (l : List Int) : Prop where
  len : l.length = 8
  lt : k < w.heap.size
  get : ∀ i v, l[i]? = some v → w.cell? ⟨k, i, none⟩ = some (.int .i64 v)
theorem n8_put {w : World} {k : Nat} (h : K8 w k) (v0 v1 v2 v3 v4 v5 v6 v7 : Int) : N8 ((((((((w.setCell ⟨k, 0, none⟩ (.int .i64 v0)).setCell ⟨k, 1, none⟩ (.int .i64 v1)).setCell ⟨k, 2, none⟩ (.int .i64 v2)).setCell ⟨k, 3, none⟩ (.int .i64 v3)).setCell ⟨k, 4, none⟩ (.int .i64 v4)).setCell ⟨k, 5, none⟩ (.int .i64 v5)).setCell ⟨k, 6, none⟩ (.int .i64 v6)).setCell ⟨k, 7, none⟩ (.int .i64 v7)) k [v0, v1, v2, v3, v4, v5, v6, v7] := by
  obtain ⟨hlt, ⟨u0, h0⟩, ⟨u1, h1⟩, ⟨u2, h2⟩, ⟨u3, h3⟩, ⟨u4, h4⟩, ⟨u5, h5⟩, ⟨u6, h6⟩, ⟨u7, h7⟩, -⟩ := h
  refine ⟨rfl, by simpa using hlt, fun i v hv => ?_⟩
  rcases i with _ | _ | _ | _ | _ | _ | _ | _ | i <;> simp at hv <;> (try subst hv) <;> go_simp
theorem n8_put_below {w0 w : World} {n k : Nat} (h : RowKit.Below n w0 w) (hk : n ≤ k) (v0 v1 v2 v3 v4 v5 v6 v7 : Int) : RowKit.Below n w0 ((((((((w.setCell ⟨k, 0, none⟩ (.int .i64 v0)).setCell ⟨k, 1, none⟩ (.int .i64 v1)).setCell ⟨k, 2, none⟩ (.int .i64 v2)).setCell ⟨k, 3, none⟩ (.int .i64 v3)).setCell ⟨k, 4, none⟩ (.int .i64 v4)).setCell ⟨k, 5, none⟩ (.int .i64 v5)).setCell ⟨k, 6, none⟩ (.int .i64 v6)).setCell ⟨k, 7, none⟩ (.int .i64 v7)) :=
  (((((((h.setCell (p := ⟨k, 0, none⟩) hk _).setCell (p := ⟨k, 1, none⟩) hk _).setCell (p := ⟨k, 2, none⟩) hk _).setCell (p := ⟨k, 3, none⟩) hk _).setCell (p := ⟨k, 4, none⟩) hk _).setCell (p := ⟨k, 5, none⟩) hk _).setCell (p := ⟨k, 6, none⟩) hk _).setCell (p := ⟨k, 7, none⟩) hk _
theorem far8 {w : World} {k b o : Nat} (v0 v1 v2 v3 v4 v5 v6 v7 : Int) (h : k ≠ b) : ((((((((w.setCell ⟨k, 0, none⟩ (.int .i64 v0)).setCell ⟨k, 1, none⟩ (.int .i64 v1)).setCell ⟨k, 2, none⟩ (.int .i64 v2)).setCell ⟨k, 3, none⟩ (.int .i64 v3)).setCell ⟨k, 4, none⟩ (.int .i64 v4)).setCell ⟨k, 5, none⟩ (.int .i64 v5)).setCell ⟨k, 6, none⟩ (.int .i64 v6)).setCell ⟨k, 7, none⟩ (.int .i64 v7)).cell? ⟨b, o, none⟩ = w.cell? ⟨b, o, none⟩ := by
  rw [World.cell?_setCell_far _ _ _ _ h, World.cell?_setCell_far _ _ _ _ h, World.cell?_setCell_far _ _ _ _ h, World.cell?_setCell_far _ _ _ _ h, World.cell?_setCell_far _ _ _ _ h, World.cell?_setCell_far _ _ _ _ h, World.cell?_setCell_far _ _ _ _ h, World.cell?_setCell_far _ _ _ _ h]
theorem alloc_keep {W : World} (o : Obj) {b i : Nat} {v : Value} (hb : b < W.heap.size) (h : W.cell? ⟨b, i, none⟩ = some v) : (W.alloc o).cell? ⟨b, i, none⟩ = some v := (((Below.refl W.heap.size W).alloc (Nat.le_refl _) o).cell (p := ⟨b, i, none⟩) hb).trans h
theorem alloc_keep_drew {W : World} (o : Obj) {b i : Nat} {v : Value} (hb : b < W.heap.size) (h : W.drew.cell? ⟨b, i, none⟩ = some v) : (W.alloc o).drew.cell? ⟨b, i, none⟩ = some v := alloc_keep o hb h
theorem n8_new (w : World) (v0 v1 v2 v3 v4 v5 v6 v7 : Int) (t : TypeId) : N8 (w.alloc (.cells #[.int .i64 v0, .int .i64 v1, .int .i64 v2, .int .i64 v3, .int .i64 v4, .int .i64 v5, .int .i64 v6, .int .i64 v7] t)) w.heap.size [v0, v1, v2, v3, v4, v5, v6, v7] := by
  refine ⟨rfl, by simp, fun i v hv => ?_⟩
  rcases i with _ | _ | _ | _ | _ | _ | _ | _ | i <;> simp at hv <;> (try subst hv) <;> go_simp
/-- The array comes, in a new variable. -/
def ArrP (w0 : World) (l : List Int) (p : Value) (w : World) : Prop := ∃ k, p = .pointer (some ⟨k, 0, none⟩) ∧ N8 w k l ∧ RowKit.Below w0.heap.size w0 w
theorem orL_drop {l : List Int} {k : Nat} {x : Int} (h : l[k]? = some x) : orL (l.drop k) = if x = 0 then orL (l.drop (k + 1)) else x := by
  obtain ⟨h1, e1⟩ := List.getElem?_eq_some_iff.1 h
  rw [List.drop_eq_getElem_cons h1, orL, e1]

end Go.Proofs.YtkdgbkhnnehedaaDoor.Mut
