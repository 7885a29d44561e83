/- cenotaphlaw32.QuorumCounts returns true for every input, and its arguments read behind the call as before. No condition. -/
import Derived.Test.YtigeieahhkoolaaKit
import Derived.Test.YtigeieahhkoolaaQuorumCounts
namespace Go.Proofs.Ytigeieahhkoolaa.quorumCountsDone
open Go.ChangeShapes Go.WideShapes Go.ChangeAt Go.RowKit Go.Deep Go.Proofs.Ytigeieahhkoolaa.Kit

theorem own : ownKnob Try.prog.godebug = none := by kernel_rfl
theorem laidOut : laidOutB Try.prog = true := by kernel_rfl

set_option maxRecDepth 100000 in
theorem lifted (os : Os) (started : os.Started) (H : Type) (enc : TypeId × Value → H) :
    ReturnsInHanded {} Try.checked os 11 .any (Rows.quorumCountsSpec.pre6 enc Try.prog Try.f11 Rows.quorumCountsRow.domain false) (Rows.quorumCountsSpec.post enc Try.prog Try.f11 false true false false) := by
  refine law_lifted (C := Try.checked) (tb := 4) own started (by kernel_rfl) Try.func11 laidOut (by kernel_rfl) rfl rfl Try.underlying4 ?_
    (ChangeSpec.witness6 (enc := enc) (C := Try.checked) false ⟨#[], #[.int .i64 0, .int .i64 0, .slice none 0 0], []⟩ 8 (by kernel_rfl) (by kernel_rfl) (by kernel_rfl) (by kernel_rfl)) ?_
  · intro ds hd
    match ds, hd with
    | [d1, d2, d3], _ => rfl
  · intro W args ha0
    have ha : Args enc Try.prog W Try.f11.params.toList args.toList := ha0
    rw [Try.params11] at ha
    obtain ⟨v0, v1, v2, rfl, h0, h1, h2⟩ := args3 ha
    obtain ⟨need, rfl, _, _⟩ := arg_i64 Try.underlying3 h0
    obtain ⟨copies, rfl, _, _⟩ := arg_i64 Try.underlying3 h1
    rcases arg_cells Try.underlying65 (by rw [show Try.prog.cellsOf 71 = 2 from by kernel_rfl]; omega) h2 with ⟨ao, cap, rfl⟩ | ⟨b, off, len, cap, F, rfl, hl, hlc, hcm, hb, hF⟩
    · exact Quorum.quorumCounts_any need copies ao 0 cap (fun _ => 0) (fun _ => 0) W (Or.inl rfl) (by omega)
    · rw [show Try.prog.cellsOf 71 = 2 from by kernel_rfl] at hF
      obtain ⟨q, hq⟩ := choose_lt (α := Int × Int) (n := len) (p := fun i q => W.cell? ⟨b, off + i * 2, none⟩ = some (.int .i64 q.1) ∧ W.cell? ⟨b, off + i * 2 + 1, none⟩ = some (.int .i64 q.2)) (fun i hi => by
        obtain ⟨g1, g2, g3⟩ := hF i (by omega)
        obtain ⟨c0, c1, e, r0, r1⟩ := rd_struct2 Try.underlying71 (by kernel_rfl) (by kernel_rfl) g2
        obtain ⟨x, rfl, _, _⟩ := rd_i64 Try.underlying3 r0
        obtain ⟨y, rfl, _, _⟩ := rd_i64 Try.underlying69 r1
        rw [e] at g3
        exact ⟨(x, y), by simpa using g3 0 (by omega), by simpa using g3 1 (by omega)⟩)
      exact Quorum.quorumCounts_any need copies _ len cap (fun i => (q i).1) (fun i => (q i).2) W (Or.inr ⟨b, off, rfl, hb, fun i hi => hq i hi⟩) (by unfold maxLen at hcm; omega)

theorem holds : Rows.QuorumCountsSaid :=
  OpenClaim.holds_of_wide 11 Try.f11 rfl rfl rfl rfl rfl rfl rfl ⟨rfl, rfl, rfl, rfl, rfl⟩ rfl rfl rfl rfl rfl (by kernel_rfl) Try.func11 (by kernel_rfl)
    (of_decide_eq_true (by kernel_rfl)) (by unfold Func.isWrapper; first | (rw [if_pos (by decide +kernel)]; kernel_rfl) | (rw [if_neg (by decide +kernel)]; exact ⟨rfl, rfl⟩))
    (fun os started H enc _ => lifted os started H enc)
#print axioms holds
end Go.Proofs.Ytigeieahhkoolaa.quorumCountsDone
