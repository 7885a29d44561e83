/- cenotaphlaw41.SkewSteady returns true for every input, and its arguments read behind the call as before. No condition. -/
import Derived.Test.YtigeieahhkoolaaKit
import Derived.Test.YtigeieahhkoolaaSkewLaw
namespace Go.Proofs.Ytigeieahhkoolaa.skewSteadyDone
open Go.ChangeShapes Go.WideShapes Go.ChangeAt Go.RowKit Go.Deep Go.Proofs.Ytigeieahhkoolaa.Kit

theorem own : ownKnob Try.prog.godebug = none := by kernel_rfl
theorem laidOut : laidOutB Try.prog = true := by kernel_rfl

set_option maxRecDepth 100000 in
theorem lifted (os : Os) (started : os.Started) (H : Type) (enc : TypeId × Value → H) :
    ReturnsInHanded {} Try.checked os 10 .any (Rows.skewSteadySpec.pre6 enc Try.prog Try.f10 Rows.skewSteadyRow.domain false) (Rows.skewSteadySpec.post enc Try.prog Try.f10 false true false false) := by
  refine law_lifted (C := Try.checked) (tb := 4) own started (by kernel_rfl) Try.func10 laidOut (by kernel_rfl) rfl rfl Try.underlying4 ?_
    (ChangeSpec.witness6 (enc := enc) (C := Try.checked) false ⟨#[], #[.int .i64 0, .slice none 0 0], []⟩ 8 (by kernel_rfl) (by kernel_rfl) (by kernel_rfl) (by kernel_rfl)) ?_
  · intro ds hd
    match ds, hd with
    | [d1, d2], _ => rfl
  · intro W args ha0
    have ha : Args enc Try.prog W Try.f10.params.toList args.toList := ha0
    rw [Try.params10] at ha
    obtain ⟨v0, v1, rfl, h0, h1⟩ := args2 ha
    obtain ⟨nodes, rfl, _, _⟩ := arg_i64 Try.underlying3 h0
    rcases arg_cells Try.underlying54 (by rw [show Try.prog.cellsOf 60 = 9 from by kernel_rfl]; omega) h1 with ⟨ao, cap, rfl⟩ | ⟨b, off, len, cap, F, rfl, hl, hlc, hcm, hb, hF⟩
    · exact Skew.skewSteady_any nodes ao 0 cap ⟨fun _ => 0, fun _ => 0, fun _ => 0, fun _ => 0, fun _ => 0, fun _ => 0, fun _ => .empty, fun _ => .empty, fun _ => .empty⟩ W (Or.inl rfl) (fun i hi => by omega) (by omega)
    · rw [show Try.prog.cellsOf 60 = 9 from by kernel_rfl] at hF
      have hone : oneCellFields Try.prog (match Try.prog.underlying 60 with | some (.struct fs) => fs | _ => #[]) = true := by kernel_rfl
      rw [Try.underlying60] at hone
      obtain ⟨q, hq⟩ := choose_lt (α := (Int × Int × Int × Int × Int × Int) × ByteArray × ByteArray × ByteArray) (n := len) (p := fun i q => Skew.StepAt W b (off + i * 9) q.1.1 q.1.2.1 q.1.2.2.1 q.1.2.2.2.1 q.1.2.2.2.2.1 q.2.1 q.2.2.1 q.2.2.2 q.1.2.2.2.2.2 ∧ -9223372036854775808 ≤ q.1.2.1 ∧ q.1.2.1 ≤ 9223372036854775807) (fun i hi => by
        obtain ⟨g1, g2, g3⟩ := hF i (by omega)
        obtain ⟨_, hf⟩ := rd_fields Try.underlying60 hone g2
        obtain ⟨w0, e0, r0⟩ := hf 0 _ rfl (by omega)
        obtain ⟨w1, e1, r1⟩ := hf 1 _ rfl (by omega)
        obtain ⟨w2, e2, r2⟩ := hf 2 _ rfl (by omega)
        obtain ⟨w3, e3, r3⟩ := hf 3 _ rfl (by omega)
        obtain ⟨w4, e4, r4⟩ := hf 4 _ rfl (by omega)
        obtain ⟨w5, e5, r5⟩ := hf 5 _ rfl (by omega)
        obtain ⟨w6, e6, r6⟩ := hf 6 _ rfl (by omega)
        obtain ⟨w7, e7, r7⟩ := hf 7 _ rfl (by omega)
        obtain ⟨w8, e8, r8⟩ := hf 8 _ rfl (by omega)
        obtain ⟨x0, rfl, _, _⟩ := rd_i64 Try.underlying57 r0
        obtain ⟨x1, rfl, y1, y2⟩ := rd_i64 Try.underlying3 r1
        obtain ⟨x2, rfl, _, _⟩ := rd_i64 Try.underlying3 r2
        obtain ⟨x3, rfl, _, _⟩ := rd_i64 Try.underlying58 r3
        obtain ⟨x4, rfl, _, _⟩ := rd_i64 Try.underlying38 r4
        obtain ⟨x5, z5, _⟩ := rd_string Try.underlying9 r5
        obtain ⟨x6, z6, _⟩ := rd_string Try.underlying9 r6
        obtain ⟨x7, z7, _⟩ := rd_string Try.underlying9 r7
        cases z5; cases z6; cases z7
        obtain ⟨x8, rfl, _, _⟩ := rd_i64 Try.underlying3 r8
        exact ⟨((x0, x1, x2, x3, x4, x8), x5, x6, x7), ⟨(g3 0 (by omega)).trans e0, (g3 1 (by omega)).trans e1, (g3 2 (by omega)).trans e2, (g3 3 (by omega)).trans e3, (g3 4 (by omega)).trans e4, (g3 5 (by omega)).trans e5, (g3 6 (by omega)).trans e6, (g3 7 (by omega)).trans e7, (g3 8 (by omega)).trans e8⟩, y1, y2⟩)
      exact Skew.skewSteady_any nodes _ len cap ⟨fun i => (q i).1.1, fun i => (q i).1.2.1, fun i => (q i).1.2.2.1, fun i => (q i).1.2.2.2.1, fun i => (q i).1.2.2.2.2.1, fun i => (q i).1.2.2.2.2.2, fun i => (q i).2.1, fun i => (q i).2.2.1, fun i => (q i).2.2.2⟩ W (Or.inr ⟨b, off, rfl, hb, fun i hi => (hq i hi).1⟩) (fun i hi => (hq i hi).2) (by unfold maxLen at hcm; omega)

theorem holds : Rows.SkewSteadySaid :=
  OpenClaim.holds_of_wide 10 Try.f10 rfl rfl rfl rfl rfl rfl rfl ⟨rfl, rfl, rfl, rfl, rfl⟩ rfl rfl rfl rfl rfl (by kernel_rfl) Try.func10 (by kernel_rfl)
    (of_decide_eq_true (by kernel_rfl)) (by unfold Func.isWrapper; first | (rw [if_pos (by decide +kernel)]; kernel_rfl) | (rw [if_neg (by decide +kernel)]; exact ⟨rfl, rfl⟩))
    (fun os started H enc _ => lifted os started H enc)
#print axioms holds
end Go.Proofs.Ytigeieahhkoolaa.skewSteadyDone
