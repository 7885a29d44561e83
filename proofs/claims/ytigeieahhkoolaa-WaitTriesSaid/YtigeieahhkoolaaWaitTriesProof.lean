/- cenotaphlaw48.WaitTries returns true for every input, and its arguments read behind the call as before. No condition. -/
import Derived.Test.YtigeieahhkoolaaKit
import Derived.Test.YtigeieahhkoolaaWaitTriesLaw
namespace Go.Proofs.Ytigeieahhkoolaa.waitTriesDone
open Go.ChangeShapes Go.WideShapes Go.ChangeAt Go.RowKit Go.Deep Go.Proofs.Ytigeieahhkoolaa.Kit

theorem own : ownKnob Try.prog.godebug = none := by kernel_rfl
theorem laidOut : laidOutB Try.prog = true := by kernel_rfl

set_option maxRecDepth 100000 in
theorem lifted (os : Os) (started : os.Started) (H : Type) (enc : TypeId × Value → H) :
    ReturnsInHanded {} Try.checked os 9 .any (Rows.waitTriesSpec.pre6 enc Try.prog Try.f9 Rows.waitTriesRow.domain false) (Rows.waitTriesSpec.post enc Try.prog Try.f9 false true false false) := by
  refine law_lifted (C := Try.checked) (tb := 4) own started (by kernel_rfl) Try.func9 laidOut (by kernel_rfl) rfl rfl Try.underlying4 ?_
    (ChangeSpec.witness6 (enc := enc) (C := Try.checked) false ⟨#[], #[.agg #[.int .i64 0, .int .i64 0, .int .u32 0], .int .i64 0, .int .i64 0], []⟩ 8 (by kernel_rfl) (by kernel_rfl) (by kernel_rfl) (by kernel_rfl)) ?_
  · intro ds hd
    match ds, hd with
    | [d1, d2, d3], _ => rfl
  · intro W args ha0
    have ha : Args enc Try.prog W Try.f9.params.toList args.toList := ha0
    rw [Try.params9] at ha
    obtain ⟨v0, v1, v2, rfl, h0, h1, h2⟩ := args3 ha
    obtain ⟨cs, rfl, hr⟩ := arg_agg Try.underlying46 h0
    obtain ⟨a0, a1, a2, rfl, r0, r1, r2⟩ := rd_struct3 Try.underlying46 (by kernel_rfl) (by kernel_rfl) hr
    obtain ⟨f, rfl, _, _⟩ := rd_i64 Try.underlying3 r0
    obtain ⟨m, rfl, _, _⟩ := rd_i64 Try.underlying3 r1
    obtain ⟨s, hs, ws⟩ := rd_int Try.underlying44 r2
    cases hs
    obtain ⟨t, rfl, t1, t2⟩ := arg_i64 Try.underlying3 h1
    obtain ⟨u, rfl, u1, u2⟩ := arg_i64 Try.underlying3 h2
    have bs := bounds_u32 ws
    exact Wait.waitTries_any f m s t u W bs.1 bs.2

theorem holds : Rows.WaitTriesSaid :=
  OpenClaim.holds_of_wide 9 Try.f9 rfl rfl rfl rfl rfl rfl rfl ⟨rfl, rfl, rfl, rfl, rfl⟩ rfl rfl rfl rfl rfl (by kernel_rfl) Try.func9 (by kernel_rfl)
    (of_decide_eq_true (by kernel_rfl)) (by unfold Func.isWrapper; first | (rw [if_pos (by decide +kernel)]; kernel_rfl) | (rw [if_neg (by decide +kernel)]; exact ⟨rfl, rfl⟩))
    (fun os started H enc _ => lifted os started H enc)
#print axioms holds
end Go.Proofs.Ytigeieahhkoolaa.waitTriesDone
