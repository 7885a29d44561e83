/- cenotaphlaw23.LeaseOver returns true for every input, and its argument reads behind the call as before. No condition. -/
import Derived.Test.YtigeieahhkoolaaKit
import Derived.Test.YtigeieahhkoolaaLeaseWalks
namespace Go.Proofs.Ytigeieahhkoolaa.leaseOverDone
open Go.ChangeShapes Go.WideShapes Go.ChangeAt Go.RowKit Go.Deep Go.Proofs.Ytigeieahhkoolaa.Kit

theorem own : ownKnob Try.prog.godebug = none := by kernel_rfl
theorem laidOut : laidOutB Try.prog = true := by kernel_rfl

set_option maxRecDepth 100000 in
theorem lifted (os : Os) (started : os.Started) (H : Type) (enc : TypeId × Value → H) :
    ReturnsInHanded {} Try.checked os 5 .any (Rows.leaseOverSpec.pre6 enc Try.prog Try.f5 Rows.leaseOverRow.domain false) (Rows.leaseOverSpec.post enc Try.prog Try.f5 false true false false) := by
  refine law_lifted (C := Try.checked) (tb := 4) own started (by kernel_rfl) Try.func5 laidOut (by kernel_rfl) rfl rfl Try.underlying4 ?_
    (ChangeSpec.witness6 (enc := enc) (C := Try.checked) false ⟨#[], #[.agg #[.int .i64 0, .int .i64 0, .int .i64 0, .int .i64 0]], []⟩ 8 (by kernel_rfl) (by kernel_rfl) (by kernel_rfl) (by kernel_rfl)) ?_
  · intro ds hd
    match ds, hd with
    | [d1], _ => rfl
  · intro W args ha0
    have ha : Args enc Try.prog W Try.f5.params.toList args.toList := ha0
    rw [Try.params5] at ha
    obtain ⟨v0, rfl, h0⟩ := args1 ha
    obtain ⟨cs, rfl, hr⟩ := arg_agg Try.underlying36 h0
    obtain ⟨a0, a1, a2, a3, rfl, r0, r1, r2, r3⟩ := rd_struct4 Try.underlying36 (by kernel_rfl) (by kernel_rfl) hr
    obtain ⟨g, rfl, g1, g2⟩ := rd_i64 Try.underlying3 r0
    obtain ⟨l, rfl, l1, l2⟩ := rd_i64 Try.underlying3 r1
    obtain ⟨t, rfl, t1, t2⟩ := rd_i64 Try.underlying3 r2
    obtain ⟨n, rfl, n1, n2⟩ := rd_i64 Try.underlying3 r3
    exact Lease.leaseOver_any g l t n W g1 g2 l1 l2 t1 t2 n1 n2

theorem holds : Rows.LeaseOverSaid :=
  OpenClaim.holds_of_wide 5 Try.f5 rfl rfl rfl rfl rfl rfl rfl ⟨rfl, rfl, rfl, rfl, rfl⟩ rfl rfl rfl rfl rfl (by kernel_rfl) Try.func5 (by kernel_rfl)
    (of_decide_eq_true (by kernel_rfl)) (by unfold Func.isWrapper; first | (rw [if_pos (by decide +kernel)]; kernel_rfl) | (rw [if_neg (by decide +kernel)]; exact ⟨rfl, rfl⟩))
    (fun os started H enc _ => lifted os started H enc)
#print axioms holds
end Go.Proofs.Ytigeieahhkoolaa.leaseOverDone
