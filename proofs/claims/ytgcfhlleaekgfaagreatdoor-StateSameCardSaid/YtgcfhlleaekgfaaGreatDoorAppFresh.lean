/- An append to an empty row with no room (a literal '[]T{}') makes memory alone: all that was stays as it was. -/
import Derived.Test.YtgcfhlleaekgfaaGreatDoorCalmTail
import Derived.Laws.AppendOwn
namespace Go.Proofs.YtgcfhlleaekgfaaGreatDoor
open Go Go.RowKit

section
variable {P : Program} {w : World}
theorem run_append_fresh (base : Nat) (t ty e : TypeId) (i : TypeInfo) (z : Value) (size bytes : Nat) (ht : P.underlying t = some (.slice e)) (hi : P.info? e = some i) (hz : i.zero = some z)
    (hsize : i.size = size) (hby : i.bytes = bytes) (hzs : z.cells.size = size) (k : Nat) (hown : w.ownsRow base e size (.slice (some ⟨k, 0, none⟩) 0 0) 0 [])
    (a : Addr) (m c : Nat) (news : List Value) (hl : news.length = m * size) (hnews : ∀ j u, news[j]? = some u → w.cell? (a.add j) = some u) (h1 : ∀ u ∈ news, u.oneCell' = true)
    (h63 : m ≤ maxLen) (hbytes : m * bytes ≤ 140737488355328) (hbase : base ≤ w.heap.size) :
    ∃ v' w', (Builtin.append_ #[t, t] ty #[.slice (some ⟨k, 0, none⟩) 0 0, .slice (some a) m c]).run P w = .ok v' w' ∧ w'.ownsRow base e size v' m news ∧ RowKit.Below w.heap.size w w' := by
  subst hsize
  subst hby
  obtain ⟨-, ⟨h0, -⟩ | ⟨g, cap, cur, hv, hbg, hg, hnc, hcm, hcs, htake⟩⟩ := hown
  · cases h0
  · injection hv with hv1 _ hv2
    injection hv1 with hv1
    injection hv1 with hv1
    subst hv1
    subst hv2
    by_cases hm : m = 0
    · subst hm
      have hn : news = [] := List.eq_nil_of_length_eq_zero (by simpa using hl)
      subst hn
      have hcur : cur = #[] := Array.eq_empty_of_size_eq_zero (by simpa using hcs)
      subst hcur
      have hr := run_append_room (P := P) (w := w) t ty e i ht hi k 0 0 #[] hg a 0 c [] (by simp) hnews h1 (by omega) (by simp)
      refine ⟨_, _, hr, ⟨by simp, .inr ⟨k, 0, _, rfl, hbg, setRow_heap w k #[] _ e _ hg, by omega, by simp [maxLen], by simp, by simp⟩⟩, rfl, rfl, rfl, by simp, fun j hj => ?_⟩
      by_cases hjk : j = k
      · subst hjk
        rw [setRow_heap w j #[] _ e _ hg, hg]
        simp
      · exact setRow_other w k j _ hjk
    · have hr := run_append_grow (P := P) (w := w) t ty e i z ht hi hz ⟨k, 0, none⟩ 0 0 [] (by simp) (fun j u h => by simp at h) a m c news hl hnews (by omega) (by simp only [maxLen] at h63; omega) (growslice_fits (by omega) (by simpa using hbytes))
      simp only [Nat.zero_add] at hr
      have hge := grownCap_ge w m 0 e
      have hcm2 : grownCap w m 0 e ≤ maxLen := grownCap_le_maxLen w m 0 e h63
      refine ⟨_, _, hr, ⟨hl, .inr ⟨w.heap.size, _, _, rfl, hbase, heap_alloc_new w.drew _, hge, hcm2, ?_, ?_⟩⟩, ((Below.refl _ w).drew).alloc (Nat.le_refl _) _⟩
      · simp only [Array.size_append, List.size_toArray, size_zeroCells, hzs, hl, List.length_nil, Nat.zero_add, ← Nat.add_mul]
        congr 1
        omega
      · simp only [Array.toList_append, List.append_assoc, List.nil_append]
        rw [← hl]
        exact List.take_left
end
end Go.Proofs.YtgcfhlleaekgfaaGreatDoor
