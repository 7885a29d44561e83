/- cenotaphlaw06.DotsJoins returns true for every input, and its arguments read behind the call as before. No condition. -/
import Derived.Test.YtihfcohebgemdaaKit
import Derived.Test.YtihfcohebgemdaaDotLaw2
import Derived.Test.YtihfcohebgemdaaDotArg
namespace Go.Proofs.Ytihfcohebgemdaa.dotsJoinsDone
open Go.ChangeShapes Go.WideShapes Go.ChangeAt Go.RowKit Go.Deep Go.Proofs.Ytihfcohebgemdaa.Kit

theorem own : ownKnob Try.prog.godebug = none := by kernel_rfl
theorem laidOut : laidOutB Try.prog = true := by kernel_rfl

set_option maxRecDepth 100000 in
theorem lifted (os : Os) (started : os.Started) (H : Type) (enc : TypeId × Value → H) :
    ReturnsInHanded {} Try.checked os 5 .any (Rows.dotsJoinsSpec.pre6 enc Try.prog Try.f5 Rows.dotsJoinsRow.domain false) (Rows.dotsJoinsSpec.post enc Try.prog Try.f5 false true false false) := by
  refine law_lifted (C := Try.checked) (tb := 4) own started (by kernel_rfl) Try.func5 laidOut (by kernel_rfl) rfl rfl Try.underlying4 ?_
    (ChangeSpec.witness6 (enc := enc) (C := Try.checked) false ⟨#[], #[.slice none 0 0, .slice none 0 0], []⟩ 8 (by kernel_rfl) (by kernel_rfl) (by kernel_rfl) (by kernel_rfl)) ?_
  · intro ds hd
    match ds, hd with
    | [d1, d2], _ => rfl
  · intro W args ha0
    have ha : Args enc Try.prog W Try.f5.params.toList args.toList := ha0
    rw [Try.params5] at ha
    obtain ⟨v0, v1, rfl, h0, h1⟩ := args2 ha
    obtain ⟨ao, ac, a, rfl, ha1, sa⟩ := Dots.arg_dots h0
    obtain ⟨bo, bc, b, rfl, hb1, sb⟩ := Dots.arg_dots h1
    exact Dots.dotsJoins_any _ _ a b W ha1 hb1 sa sb

theorem holds : Rows.DotsJoinsSaid :=
  OpenClaim.holds_of_wide 5 Try.f5 rfl rfl rfl rfl rfl rfl rfl ⟨rfl, rfl, rfl, rfl, rfl⟩ rfl rfl rfl rfl rfl (by kernel_rfl) Try.func5 (by kernel_rfl)
    (of_decide_eq_true (by kernel_rfl)) (by unfold Func.isWrapper; first | (rw [if_pos (by decide +kernel)]; kernel_rfl) | (rw [if_neg (by decide +kernel)]; exact ⟨rfl, rfl⟩))
    (fun os started H enc _ => lifted os started H enc)
#print axioms holds
end Go.Proofs.Ytihfcohebgemdaa.dotsJoinsDone
