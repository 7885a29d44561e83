/- cenotaphlaw06.DotsSets returns true for every input, and its arguments read behind the call as before. No condition. -/
import Derived.Test.YtihfcohebgemdaaKit
import Derived.Test.YtihfcohebgemdaaDotLaw
import Derived.Test.YtihfcohebgemdaaDotArg
namespace Go.Proofs.Ytihfcohebgemdaa.dotsSetsDone
open Go.ChangeShapes Go.WideShapes Go.ChangeAt Go.RowKit Go.Deep Go.Proofs.Ytihfcohebgemdaa.Kit

theorem own : ownKnob Try.prog.godebug = none := by kernel_rfl
theorem laidOut : laidOutB Try.prog = true := by kernel_rfl

set_option maxRecDepth 100000 in
theorem lifted (os : Os) (started : os.Started) (H : Type) (enc : TypeId × Value → H) :
    ReturnsInHanded {} Try.checked os 4 .any (Rows.dotsSetsSpec.pre6 enc Try.prog Try.f4 Rows.dotsSetsRow.domain false) (Rows.dotsSetsSpec.post enc Try.prog Try.f4 false true false false) := by
  refine law_lifted (C := Try.checked) (tb := 4) own started (by kernel_rfl) Try.func4 laidOut (by kernel_rfl) rfl rfl Try.underlying4 ?_
    (ChangeSpec.witness6 (enc := enc) (C := Try.checked) false ⟨#[], #[.slice none 0 0, .agg #[.int .i64 0, .int .i64 0]], []⟩ 8 (by kernel_rfl) (by kernel_rfl) (by kernel_rfl) (by kernel_rfl)) ?_
  · intro ds hd
    match ds, hd with
    | [d1, d2], _ => rfl
  · intro W args ha0
    have ha : Args enc Try.prog W Try.f4.params.toList args.toList := ha0
    rw [Try.params4] at ha
    obtain ⟨v0, v1, rfl, h0, h1⟩ := args2 ha
    obtain ⟨ao, ac, a, rfl, ha1, sa⟩ := Dots.arg_dots h0
    obtain ⟨cs, rfl, hr⟩ := arg_agg Try.underlying33 h1
    obtain ⟨a0, a1, rfl, r0, r1⟩ := rd_struct2 Try.underlying33 (by kernel_rfl) (by kernel_rfl) hr
    obtain ⟨x, rfl, x1, x2⟩ := rd_i64 Try.underlying3 r0
    obtain ⟨y, rfl, _, _⟩ := rd_i64 Try.underlying3 r1
    exact Dots.dotsSets_any _ a ⟨x, y⟩ W ha1 sa x1 x2

theorem holds : Rows.DotsSetsSaid :=
  OpenClaim.holds_of_wide 4 Try.f4 rfl rfl rfl rfl rfl rfl rfl ⟨rfl, rfl, rfl, rfl, rfl⟩ rfl rfl rfl rfl rfl (by kernel_rfl) Try.func4 (by kernel_rfl)
    (of_decide_eq_true (by kernel_rfl)) (by unfold Func.isWrapper; first | (rw [if_pos (by decide +kernel)]; kernel_rfl) | (rw [if_neg (by decide +kernel)]; exact ⟨rfl, rfl⟩))
    (fun os started H enc _ => lifted os started H enc)
#print axioms holds
end Go.Proofs.Ytihfcohebgemdaa.dotsSetsDone
