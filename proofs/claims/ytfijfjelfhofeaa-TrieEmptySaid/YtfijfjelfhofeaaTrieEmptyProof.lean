/- The law TrieEmpty (layer 45): when all texts are dropped again the trie is empty, for any texts and any turn. -/
import Derived.Test.YtfijfjelfhofeaaKit
import Derived.Test.YtfijfjelfhofeaaTriEmpty
namespace Go.Proofs.Ytfijfjelfhofeaa.trieEmptyDone
open Go.ChangeShapes Go.WideShapes Go.ChangeAt Go.RowKit Go.Deep Go.Proofs.Ytfijfjelfhofeaa.Kit

theorem own : ownKnob Try.prog.godebug = none := by kernel_rfl
theorem laidOut : laidOutB Try.prog = true := by kernel_rfl

set_option maxRecDepth 100000 in
theorem lifted (os : Os) (started : os.Started) (H : Type) (enc : TypeId × Value → H) :
    ReturnsInHanded {} Try.checked os 3 .any (Rows.trieEmptySpec.pre6 enc Try.prog Try.f3 Rows.trieEmptyRow.domain false) (Rows.trieEmptySpec.post enc Try.prog Try.f3 false true false false) := by
  refine law_lifted (C := Try.checked) (tb := 4) own started (by kernel_rfl) Try.func3 laidOut (by kernel_rfl) rfl rfl Try.underlying4 ?_
    (ChangeSpec.witness6 (enc := enc) (C := Try.checked) false ⟨#[], #[.slice none 0 0, .int .i64 0], []⟩ 8 (by kernel_rfl) (by kernel_rfl) (by kernel_rfl) (by kernel_rfl)) ?_
  · intro ds hd
    match ds, hd with
    | [d1, d2], _ => rfl
  · intro W args ha0
    have ha : Args enc Try.prog W Try.f3.params.toList args.toList := ha0
    rw [Try.params3] at ha
    obtain ⟨v0, v1, rfl, h0, h1⟩ := args2 ha
    obtain ⟨ao, cap, l, rfl, hl, _, _⟩ := arg_lst (α := ByteArray) (en := Tri.enS) (good := fun _ => True) Try.underlying22 (show Try.prog.cellsOf 9 = 1 by kernel_rfl) (by decide) (fun cs hr => by
      obtain ⟨s, rfl, _⟩ := rd_string Try.underlying9 hr
      exact ⟨s, rfl, trivial⟩) h0
    obtain ⟨t, rfl, b1, b2⟩ := arg_i64 Try.underlying3 h1
    exact Tri.trieEmpty_any ao cap l t W hl ⟨b1, b2⟩

theorem holds : Rows.TrieEmptySaid :=
  OpenClaim.holds_of_wide 3 Try.f3 rfl rfl rfl rfl rfl rfl rfl ⟨rfl, rfl, rfl, rfl, rfl⟩ rfl rfl rfl rfl rfl (by kernel_rfl) Try.func3 (by kernel_rfl)
    (of_decide_eq_true (by kernel_rfl)) (by unfold Func.isWrapper; first | (rw [if_pos (by decide +kernel)]; kernel_rfl) | (rw [if_neg (by decide +kernel)]; exact ⟨rfl, rfl⟩))
    (fun os started H enc _ => lifted os started H enc)
#print axioms holds
end Go.Proofs.Ytfijfjelfhofeaa.trieEmptyDone
