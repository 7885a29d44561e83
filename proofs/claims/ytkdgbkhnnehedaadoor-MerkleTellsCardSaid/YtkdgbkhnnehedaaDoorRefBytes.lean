/- The document's bytes of a text, of a stamp, of a mutation: new rows (layers 3, 7). PRINTED by wip/genrefbytes.py. -/
import Derived.Test.YtkdgbkhnnehedaaDoorMutRest
set_option linter.unusedSimpArgs false
set_option linter.unusedVariables false
namespace Go.Proofs.YtkdgbkhnnehedaaDoor.Mrk
open Go.RowKit Go.Proofs.YtkdgbkhnnehedaaDoor.Spare Go.Proofs.YtkdgbkhnnehedaaDoor.RegInv
set_option linter.unusedSectionVars false

def sOwn (b0 : Nat) (l : List Nat) : RSpec := sOne (fun v W => OwnB W b0 v l) (fun _ _ _ h hb => h.below hb)
theorem OwnB.src {W : World} {b : Nat} {v : Value} {l : List Nat} (h : OwnB W b v l) (hne : l ≠ []) : ∃ g gc, v = .slice (some ⟨g, 0, none⟩) l.length gc ∧ ∀ j u, (l.flatMap enB)[j]? = some u → W.cell? ((⟨g, 0, none⟩ : Addr).add j) = some u := by
  rcases h.2 with ⟨rfl, h0⟩ | ⟨g, cap, cur, rfl, _⟩
  · exact absurd (List.eq_nil_of_length_eq_zero h0) hne
  · exact ⟨g, cap, rfl, World.ownsRow.cells h rfl⟩
theorem flat_enB_len (l : List Nat) : (l.flatMap enB).length = l.length * ([.int .u8 0] : List Value).length := by
  rw [flat_enB, List.length_map]
  simp
theorem enB_one (l : List Nat) : ∀ u ∈ l.flatMap enB, u.oneCell' = true := by
  intro u hu
  rw [flat_enB] at hu
  obtain ⟨c, _, rfl⟩ := List.mem_map.1 hu
  rfl
theorem putF_ne (n : Nat) : putF n ≠ [] := by unfold putF; simp
theorem textF_ne (s : ByteArray) : textF s ≠ [] := by unfold textF; simp [putF_ne]
theorem stF_ne (s : Mut.Stp) : stF s ≠ [] := by unfold stF; simp [putF_ne]

end Go.Proofs.YtkdgbkhnnehedaaDoor.Mrk
