/- cenotaphlaw23.LeasePlays returns true for every input, and its argument reads behind the call as before. No condition. -/
import Derived.Test.YtigeieahhkoolaaKit
import Derived.Test.YtigeieahhkoolaaLeasePlaysWalk
namespace Go.Proofs.Ytigeieahhkoolaa.leasePlaysDone
open Go.ChangeShapes Go.WideShapes Go.ChangeAt Go.RowKit Go.Deep Go.Proofs.Ytigeieahhkoolaa.Kit

theorem own : ownKnob Try.prog.godebug = none := by kernel_rfl
theorem laidOut : laidOutB Try.prog = true := by kernel_rfl

set_option maxRecDepth 100000 in
theorem lifted (os : Os) (started : os.Started) (H : Type) (enc : TypeId × Value → H) :
    ReturnsInHanded {} Try.checked os 3 .any (Rows.leasePlaysSpec.pre6 enc Try.prog Try.f3 Rows.leasePlaysRow.domain false) (Rows.leasePlaysSpec.post enc Try.prog Try.f3 false true false false) := by
  refine law_lifted (C := Try.checked) (tb := 4) own started (by kernel_rfl) Try.func3 laidOut (by kernel_rfl) rfl rfl Try.underlying4 ?_
    (ChangeSpec.witness6 (enc := enc) (C := Try.checked) false ⟨#[], #[.slice none 0 0], []⟩ 8 (by kernel_rfl) (by kernel_rfl) (by kernel_rfl) (by kernel_rfl)) ?_
  · intro ds hd
    match ds, hd with
    | [d1], _ => rfl
  · intro W args ha0
    have ha : Args enc Try.prog W Try.f3.params.toList args.toList := ha0
    rw [Try.params3] at ha
    obtain ⟨v0, rfl, h0⟩ := args1 ha
    rcases arg_cells Try.underlying22 (by rw [show Try.prog.cellsOf 27 = 2 from by kernel_rfl]; omega) h0 with ⟨ao, cap, rfl⟩ | ⟨b, off, len, cap, F, rfl, hl, hlc, hcm, hb, hF⟩
    · exact Lease.leasePlays_any ao 0 cap (fun _ => 0) (fun _ => 0) W (Or.inl rfl) (by omega) (fun i hi => by omega)
    · rw [show Try.prog.cellsOf 27 = 2 from by kernel_rfl] at hF
      obtain ⟨q, hq⟩ := choose_lt (α := Int × Int) (n := len) (p := fun i q => W.cell? ⟨b, off + i * 2, none⟩ = some (.int .i64 q.1) ∧ W.cell? ⟨b, off + i * 2 + 1, none⟩ = some (.int .i64 q.2) ∧ -9223372036854775808 ≤ q.2 ∧ q.2 ≤ 9223372036854775807) (fun i hi => by
        obtain ⟨g1, g2, g3⟩ := hF i (by omega)
        obtain ⟨c0, c1, e, r0, r1⟩ := rd_struct2 Try.underlying27 (by kernel_rfl) (by kernel_rfl) g2
        obtain ⟨x, rfl, _, _⟩ := rd_i64 Try.underlying3 r0
        obtain ⟨y, rfl, y1, y2⟩ := rd_i64 Try.underlying3 r1
        rw [e] at g3
        exact ⟨(x, y), by simpa using g3 0 (by omega), by simpa using g3 1 (by omega), y1, y2⟩)
      exact Lease.leasePlays_any _ len cap (fun i => (q i).1) (fun i => (q i).2) W (Or.inr ⟨b, off, rfl, hb, fun i hi => ⟨(hq i hi).1, (hq i hi).2.1⟩⟩) (by unfold maxLen at hcm; omega) (fun i hi => (hq i hi).2.2)

theorem holds : Rows.LeasePlaysSaid :=
  OpenClaim.holds_of_wide 3 Try.f3 rfl rfl rfl rfl rfl rfl rfl ⟨rfl, rfl, rfl, rfl, rfl⟩ rfl rfl rfl rfl rfl (by kernel_rfl) Try.func3 (by kernel_rfl)
    (of_decide_eq_true (by kernel_rfl)) (by unfold Func.isWrapper; first | (rw [if_pos (by decide +kernel)]; kernel_rfl) | (rw [if_neg (by decide +kernel)]; exact ⟨rfl, rfl⟩))
    (fun os started H enc _ => lifted os started H enc)
#print axioms holds
end Go.Proofs.Ytigeieahhkoolaa.leasePlaysDone
