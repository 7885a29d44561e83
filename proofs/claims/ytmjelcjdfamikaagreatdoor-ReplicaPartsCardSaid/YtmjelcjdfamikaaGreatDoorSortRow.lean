/- Rows that the library's sort, or its reversal, has turned: from the library's words to a row that one owns. -/
import Derived.Test.YtmjelcjdfamikaaGreatDoorLstMore
import Derived.Shelf.SlSortCmp.WholeK
set_option linter.unusedSimpArgs false
set_option linter.unusedVariables false
namespace Go.Proofs.YtmjelcjdfamikaaGreatDoor
open Go.RowKit Go.Sort

section
variable {α : Type} [Inhabited α] {en : α → List Value} {k : Nat}
theorem flatK_toList (hk : ∀ x, (en x).length = k) (d : Array α) : (flatK en k d).toList = d.toList.flatMap en := by
  have hl : (d.toList.flatMap en).length = d.size * k := by rw [flatMap_len hk]; simp
  apply List.ext_getElem?
  intro t
  by_cases h : t < d.size * k
  · have k0 : 0 < k := by rcases Nat.eq_zero_or_pos k with h0 | h0
                          · subst h0; simp at h
                          · exact h0
    have hd : t / k < d.size := by rw [Nat.div_lt_iff_lt_mul k0]; exact h
    have hm : t % k < k := Nat.mod_lt _ k0
    have h1 := get_flatK en k d t h
    have h2 := flatMap_get hk d.toList (t / k) d[t / k] (by rw [Array.getElem?_toList]; exact Array.getElem?_eq_getElem hd) (t % k) hm
    rw [Nat.div_add_mod' t k] at h2
    rw [h2, Array.getElem?_toList, Array.getElem?_eq_getElem (by simpa using h), ← getElem!_pos (flatK en k d) t (by simpa using h), h1, getElem!_pos d (t / k) hd, getElem!_pos _ _ (by rw [hk]; exact hm), List.getElem?_eq_getElem]
  · rw [List.getElem?_eq_none (by simp; omega), List.getElem?_eq_none (by rw [hl]; omega)]

variable {w : World} {base : Nat} {e : TypeId} {g cap : Nat} {R : List α}
theorem owned_parts {n : Nat} {xs : List Value} (h : w.ownsRow base e k (.slice (some ⟨g, 0, none⟩) n cap) n xs) : xs.length = n * k ∧ base ≤ g ∧ ∃ cur, w.heap[g]? = some (.cells cur e (0, 0)) ∧ n ≤ cap ∧ cap ≤ maxLen ∧ cur.size = cap * k ∧ cur.toList.take (n * k) = xs := by
  obtain ⟨h1, ⟨h2, -⟩ | ⟨g', cap', cur, h2, h3, h4, h5, h6, h7, h8⟩⟩ := h
  · cases h2
  · injection h2 with h2 h9 h10
    injection h2 with h2
    injection h2 with h2
    subst h2 h10
    exact ⟨h1, h3, cur, h4, h5, h6, h7, h8⟩
theorem holds_owned (hk : ∀ x, (en x).length = k) (h : w.ownsRow base e k (.slice (some ⟨g, 0, none⟩) R.length cap) R.length (R.flatMap en)) : HoldsK en k w g 0 R.toArray := by
  obtain ⟨h1, h2, cur, h4, h5, h6, h7, h8⟩ := owned_parts h
  intro j hj
  have hj' : j < R.length * k := by simpa using hj
  have hle : R.length * k ≤ cap * k := Nat.mul_le_mul_right k h5
  constructor
  · rw [Nat.zero_add, cell_of_row _ _ j _ e (0, 0) h4]
    have e1 : cur[j]? = (R.flatMap en)[j]? := by
      rw [← h8, List.getElem?_take_of_lt hj', Array.getElem?_toList]
    rw [e1]
    have e2 := flatK_toList hk R.toArray
    rw [show R.toArray.toList = R from rfl] at e2
    rw [← e2, Array.getElem?_toList, Array.getElem?_eq_getElem hj]
    rw [getElem!_pos _ j hj]; rfl
  · simp [World.frozen?, h4]
theorem owned_put (hk : ∀ x, (en x).length = k) (h : w.ownsRow base e k (.slice (some ⟨g, 0, none⟩) R.length cap) R.length (R.flatMap en)) (d : Array α) (hs : d.size = R.length) (n : Nat) (os : Array Obj) :
    (sortWorldK en k w g 0 n d os).ownsRow base e k (.slice (some ⟨g, 0, none⟩) R.length cap) R.length (d.toList.flatMap en) ∧ w.grownBy (sortWorldK en k w g 0 n d os) (some g) := by
  obtain ⟨h1, h2, cur, h4, h5, h6, h7, h8⟩ := owned_parts h
  have hlt : g < w.heap.size := (Array.getElem?_eq_some_iff.1 h4).1
  have hle : R.length * k ≤ cap * k := Nat.mul_le_mul_right k h5
  have hsz : (putRowK en k (Sort.ahead w n) g 0 d).heap.size = w.heap.size := size_putRow _ _ _ _ _
  have hblk : (sortWorldK en k w g 0 n d os).heap[g]? = some (.cells (putCells id 0 (flatK en k d) cur) e (0, 0)) := by
    unfold sortWorldK
    rw [heap_grow_old _ _ (by rw [hsz]; exact hlt)]
    show ((Sort.ahead w n).heap.modify g _)[g]? = _
    rw [Array.getElem?_modify, if_pos rfl]
    show (w.heap[g]?).map _ = _
    rw [h4]; rfl
  constructor
  · refine ⟨by rw [flatMap_len hk]; simp [hs], Or.inr ⟨g, cap, _, rfl, h2, hblk, h5, h6, by simp [putCells, h7], ?_⟩⟩
    rw [← flatK_toList hk d]
    have hF : (flatK en k d).size = R.length * k := by simp [hs]
    apply List.ext_getElem?
    intro j
    by_cases hj : j < R.length * k
    · rw [List.getElem?_take_of_lt hj, Array.getElem?_toList, Array.getElem?_toList]
      unfold putCells
      rw [Array.getElem?_mapIdx, Array.getElem?_eq_getElem (by omega), Array.getElem?_eq_getElem (by omega)]
      simp only [Option.map_some]
      rw [if_pos ⟨by omega, by omega⟩, Nat.sub_zero, getElem!_pos _ j (by omega)]; rfl
    · rw [List.getElem?_eq_none (by simp; omega), List.getElem?_eq_none (by simp [hs]; omega)]
  · refine ⟨rfl, rfl, rfl, ?_, ?_⟩
    · unfold sortWorldK; rw [size_grow, hsz]; omega
    · intro i hi hne
      have hne' : ¬ g = i := fun e => hne (by rw [e])
      unfold sortWorldK
      rw [heap_grow_old _ _ (by rw [hsz]; exact hi)]
      show ((Sort.ahead w n).heap.modify g _)[i]? = _
      rw [Array.getElem?_modify, if_neg hne']; rfl
end
end Go.Proofs.YtmjelcjdfamikaaGreatDoor
