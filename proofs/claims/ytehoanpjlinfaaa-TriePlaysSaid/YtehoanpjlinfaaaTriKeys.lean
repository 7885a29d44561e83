/- The keys of a dictionary, as a list; strings of a slice. -/
import Derived.Test.YtehoanpjlinfaaaTriAlive
import Derived.Test.YtehoanpjlinfaaaArgLst
namespace Go.Proofs.Ytehoanpjlinfaaa.Tri
open Go.RowKit Go.Proofs.Ytehoanpjlinfaaa.Kit

abbrev enS (s : ByteArray) : List Value := [.string s]
abbrev SRow (w : World) (v : Value) (l : List ByteArray) : Prop := Lst 1 enS w v l
theorem str_at {w : World} {ao : Option Addr} {n cap : Nat} {l : List ByteArray} {k : Nat} {x : ByteArray} (h : SRow w (.slice ao n cap) l) (hk : l[k]? = some x) :
    ∃ b off, ao = some ⟨b, off, none⟩ ∧ b < w.heap.size ∧ w.cell? ⟨b, off + k, none⟩ = some (.string x) := by
  obtain ⟨hlt, he⟩ := List.getElem?_eq_some_iff.1 hk
  obtain ⟨b, off, ha, hb, hc⟩ := Lst.get h hlt
  have := hc 0 (by decide)
  rw [he, Nat.mul_one] at this
  exact ⟨b, off, ha, hb, this⟩

/-- The texts at hand, each once. -/
structure Keys (D : Dict) (K : List Tx) : Prop where
  nodup : K.Nodup
  iff : ∀ k, D k ≠ none ↔ k ∈ K
theorem Keys.emp : Keys emp [] := ⟨List.nodup_nil, fun k => by simp [Tri.emp]⟩
theorem Keys.ins {D : Dict} {K : List Tx} (h : Keys D K) (s : Tx) (n : Int) : ∃ K', Keys (ins D s n) K' ∧ K'.length = (if (D s).isSome then K.length else K.length + 1) ∧ ∀ k, k ∈ K' ↔ k = s ∨ k ∈ K := by
  by_cases hs : D s = none
  · refine ⟨s :: K, ⟨List.nodup_cons.2 ⟨fun e => (h.iff s).2 e hs, h.nodup⟩, fun k => ?_⟩, by rw [hs]; rfl, fun k => by simp⟩
    unfold Tri.ins
    by_cases e : k = s
    · simp [e]
    · simp [e, h.iff]
  · have hi : (D s).isSome = true := by cases hq : D s with
      | none => exact absurd hq hs
      | some _ => rfl
    have hm := (h.iff s).1 hs
    refine ⟨K, ⟨h.nodup, fun k => ?_⟩, by rw [hi]; rfl, fun k => ⟨Or.inr, fun e => e.elim (fun e => by rw [e]; exact hm) id⟩⟩
    unfold Tri.ins
    by_cases e : k = s
    · simp [e, hm]
    · simp [e, h.iff]
theorem Keys.del {D : Dict} {K : List Tx} (h : Keys D K) (s : Tx) : ∃ K', Keys (del D s) K' ∧ (K'.length : Int) = (if (D s).isSome then (K.length : Int) - 1 else K.length) ∧ ∀ k, k ∈ K' ↔ k ≠ s ∧ k ∈ K := by
  have hK : Keys (Tri.del D s) (K.erase s) := ⟨h.nodup.erase s, fun k => by
    rw [h.nodup.mem_erase_iff, ← h.iff]
    unfold Tri.del
    by_cases e : k = s <;> simp [e]⟩
  refine ⟨K.erase s, hK, ?_, fun k => h.nodup.mem_erase_iff⟩
  by_cases hs : D s = none
  · rw [hs]
    rw [List.erase_of_not_mem (fun e => (h.iff s).2 e hs)]
    rfl
  · have hi : (D s).isSome = true := by cases hq : D s with
      | none => exact absurd hq hs
      | some _ => rfl
    have hm := (h.iff s).1 hs
    rw [hi, List.length_erase_of_mem hm]
    have : 0 < K.length := List.length_pos_of_mem hm
    simp only [if_true]
    omega

theorem tmod_bound (x : Int) (n : Nat) (hn : 0 < n) : -(n : Int) < x.tmod n ∧ x.tmod n < n := by
  have h1 := Int.tmod_lt_of_pos x (show (0 : Int) < n by omega)
  have h2 := Int.lt_tmod_of_pos x (show (0 : Int) < n by omega)
  omega

end Go.Proofs.Ytehoanpjlinfaaa.Tri
