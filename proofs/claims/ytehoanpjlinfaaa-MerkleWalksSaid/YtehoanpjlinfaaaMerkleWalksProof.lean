/- cenotaphlaw24.MerkleWalks returns true for every input, and its arguments read behind the call as before. No condition. -/
import Derived.Test.YtehoanpjlinfaaaKit
import Derived.Test.YtehoanpjlinfaaaMrkArg
namespace Go.Proofs.Ytehoanpjlinfaaa.merkleWalksDone
open Go.ChangeShapes Go.WideShapes Go.ChangeAt Go.RowKit Go.Deep Go.Proofs.Ytehoanpjlinfaaa.Kit

theorem own : ownKnob Try.prog.godebug = none := by kernel_rfl
theorem laidOut : laidOutB Try.prog = true := by kernel_rfl

set_option maxRecDepth 100000 in
theorem lifted (os : Os) (started : os.Started) (H : Type) (enc : TypeId × Value → H) :
    ReturnsInHanded {} Try.checked os 4 .any (Rows.merkleWalksSpec.pre6 enc Try.prog Try.f4 Rows.merkleWalksRow.domain false) (Rows.merkleWalksSpec.post enc Try.prog Try.f4 false true false false) := by
  refine law_lifted (C := Try.checked) (tb := 4) own started (by kernel_rfl) Try.func4 laidOut (by kernel_rfl) rfl rfl Try.underlying4 ?_
    (ChangeSpec.witness6 (enc := enc) (C := Try.checked) false ⟨#[], #[.agg (Array.replicate 32 (.int .u64 0)), .agg (Array.replicate 32 (.int .u64 0))], []⟩ 8 (by kernel_rfl) (by kernel_rfl) (by kernel_rfl) (by kernel_rfl)) ?_
  · intro ds hd
    match ds, hd with
    | [d1, d2], _ => rfl
  · intro W args ha0
    have ha : Args enc Try.prog W Try.f4.params.toList args.toList := ha0
    rw [Try.params4] at ha
    obtain ⟨v0, v1, rfl, h0, h1⟩ := args2 ha
    obtain ⟨a, rfl, hwa⟩ := Mrk.arg_tree Try.underlying52 Try.underlying50 (by kernel_rfl) (by kernel_rfl) h0
    obtain ⟨b, rfl, _⟩ := Mrk.arg_tree Try.underlying52 Try.underlying50 (by kernel_rfl) (by kernel_rfl) h1
    exact Mrk.merkleWalks_any a b W hwa

theorem holds : Rows.MerkleWalksSaid :=
  OpenClaim.holds_of_wide 4 Try.f4 rfl rfl rfl rfl rfl rfl rfl ⟨rfl, rfl, rfl, rfl, rfl⟩ rfl rfl rfl rfl rfl (by kernel_rfl) Try.func4 (by kernel_rfl)
    (of_decide_eq_true (by kernel_rfl)) (by unfold Func.isWrapper; first | (rw [if_pos (by decide +kernel)]; kernel_rfl) | (rw [if_neg (by decide +kernel)]; exact ⟨rfl, rfl⟩))
    (fun os started H enc _ => lifted os started H enc)
#print axioms holds
end Go.Proofs.Ytehoanpjlinfaaa.merkleWalksDone
