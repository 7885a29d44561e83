/- cenotaphlaw32.QuorumMeets returns true for every input, and its arguments read behind the call as before. No condition. -/
import Derived.Test.YtigeieahhkoolaaKit
import Derived.Test.YtigeieahhkoolaaQuorumMeetsWalk
namespace Go.Proofs.Ytigeieahhkoolaa.quorumMeetsDone
open Go.ChangeShapes Go.WideShapes Go.ChangeAt Go.RowKit Go.Deep Go.Proofs.Ytigeieahhkoolaa.Kit

theorem own : ownKnob Try.prog.godebug = none := by kernel_rfl
theorem laidOut : laidOutB Try.prog = true := by kernel_rfl

set_option maxRecDepth 100000 in
theorem lifted (os : Os) (started : os.Started) (H : Type) (enc : TypeId × Value → H) :
    ReturnsInHanded {} Try.checked os 7 .any (Rows.quorumMeetsSpec.pre6 enc Try.prog Try.f7 Rows.quorumMeetsRow.domain false) (Rows.quorumMeetsSpec.post enc Try.prog Try.f7 false true false false) := by
  refine law_lifted (C := Try.checked) (tb := 4) own started (by kernel_rfl) Try.func7 laidOut (by kernel_rfl) rfl rfl Try.underlying4 ?_
    (ChangeSpec.witness6 (enc := enc) (C := Try.checked) false ⟨#[], #[.int .i64 0, .int .i64 0, .int .i64 0], []⟩ 8 (by kernel_rfl) (by kernel_rfl) (by kernel_rfl) (by kernel_rfl)) ?_
  · intro ds hd
    match ds, hd with
    | [d1, d2, d3], _ => rfl
  · intro W args ha0
    have ha : Args enc Try.prog W Try.f7.params.toList args.toList := ha0
    rw [Try.params7] at ha
    obtain ⟨v0, v1, v2, rfl, h0, h1, h2⟩ := args3 ha
    obtain ⟨a, rfl, a1, a2⟩ := arg_i64 Try.underlying38 h0
    obtain ⟨b, rfl, b1, b2⟩ := arg_i64 Try.underlying38 h1
    obtain ⟨c, rfl, c1, c2⟩ := arg_i64 Try.underlying3 h2
    exact (Quorum.quorumMeets_any a b c W c2 c1).mono fun e w' ⟨h, hw⟩ => ⟨h, hw ▸ Below.refl _ _⟩

theorem holds : Rows.QuorumMeetsSaid :=
  OpenClaim.holds_of_wide 7 Try.f7 rfl rfl rfl rfl rfl rfl rfl ⟨rfl, rfl, rfl, rfl, rfl⟩ rfl rfl rfl rfl rfl (by kernel_rfl) Try.func7 (by kernel_rfl)
    (of_decide_eq_true (by kernel_rfl)) (by unfold Func.isWrapper; first | (rw [if_pos (by decide +kernel)]; kernel_rfl) | (rw [if_neg (by decide +kernel)]; exact ⟨rfl, rfl⟩))
    (fun os started H enc _ => lifted os started H enc)
#print axioms holds
end Go.Proofs.Ytigeieahhkoolaa.quorumMeetsDone
