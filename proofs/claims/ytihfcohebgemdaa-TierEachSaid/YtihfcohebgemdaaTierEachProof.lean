/- cenotaphlaw18.TierEach returns true for every input, and its argument reads behind the call as before. No condition. -/
import Derived.Test.YtihfcohebgemdaaKit
import Derived.Test.YtihfcohebgemdaaTierArg
import Derived.Test.YtihfcohebgemdaaTierEachLaw
namespace Go.Proofs.Ytihfcohebgemdaa.tierEachDone
open Go.ChangeShapes Go.WideShapes Go.ChangeAt Go.RowKit Go.Deep Go.Proofs.Ytihfcohebgemdaa.Kit

theorem own : ownKnob Try.prog.godebug = none := by kernel_rfl
theorem laidOut : laidOutB Try.prog = true := by kernel_rfl

set_option maxRecDepth 100000 in
theorem lifted (os : Os) (started : os.Started) (H : Type) (enc : TypeId × Value → H) :
    ReturnsInHanded {} Try.checked os 3 .any (Rows.tierEachSpec.pre6 enc Try.prog Try.f3 Rows.tierEachRow.domain false) (Rows.tierEachSpec.post enc Try.prog Try.f3 false true false false) := by
  refine law_lifted (C := Try.checked) (tb := 4) own started (by kernel_rfl) Try.func3 laidOut (by kernel_rfl) rfl rfl Try.underlying4 ?_
    (ChangeSpec.witness6 (enc := enc) (C := Try.checked) false ⟨#[], #[.slice none 0 0], []⟩ 8 (by kernel_rfl) (by kernel_rfl) (by kernel_rfl) (by kernel_rfl)) ?_
  · intro ds hd
    match ds, hd with
    | [d1], _ => rfl
  · intro W args ha0
    have ha : Args enc Try.prog W Try.f3.params.toList args.toList := ha0
    rw [Try.params3] at ha
    obtain ⟨v0, rfl, h0⟩ := args1 ha
    obtain ⟨ao, ac, l, rfl, hl⟩ := Tier.arg_ints h0
    exact Tier.tierEach_any ao ac l W hl

theorem holds : Rows.TierEachSaid :=
  OpenClaim.holds_of_wide 3 Try.f3 rfl rfl rfl rfl rfl rfl rfl ⟨rfl, rfl, rfl, rfl, rfl⟩ rfl rfl rfl rfl rfl (by kernel_rfl) Try.func3 (by kernel_rfl)
    (of_decide_eq_true (by kernel_rfl)) (by unfold Func.isWrapper; first | (rw [if_pos (by decide +kernel)]; kernel_rfl) | (rw [if_neg (by decide +kernel)]; exact ⟨rfl, rfl⟩))
    (fun os started H enc _ => lifted os started H enc)
#print axioms holds
end Go.Proofs.Ytihfcohebgemdaa.tierEachDone
