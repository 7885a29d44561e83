/- Floors as an argument (layer 10). -/
import Derived.Test.YtipoeigehabbmaaGreatDoorConArg
set_option linter.unusedSimpArgs false
set_option linter.unusedVariables false
namespace Go.Proofs.YtipoeigehabbmaaGreatDoor.Mut
open Go.ChangeShapes Go.WideShapes Go.ChangeAt Go.RowKit Go.Deep Go.Proofs.YtipoeigehabbmaaGreatDoor.Kit Go.Proofs.YtipoeigehabbmaaGreatDoor.Ord
set_option linter.unusedSectionVars false
variable [Inhabited Lim]
set_option maxRecDepth 100000 in
theorem arg_floors {H : Type} {enc : TypeId × Value → H} {W : World} {v : Value} (h : Arg enc Tryz.prog W 97 v) : ∃ (f g : Stp) (phys : Int), v = .agg #[.int .i64 f.p, .int .i64 f.l, .int .i64 f.w, .int .i64 g.p, .int .i64 g.l, .int .i64 g.w, .int .i64 phys] := by
  obtain ⟨cs, rfl, hr⟩ := arg_agg Tryz.underlying97 h
  obtain ⟨hl, hf⟩ := rd_struct Tryz.underlying97 hr
  rw [show Tryz.prog.cellsOf 97 = 7 by kernel_rfl] at hl
  match cs, hl with
  | [c0, c1, c2, c3, c4, c5, c6], _ =>
    have h0 : Rd enc Tryz.prog W 32 (List.take (Tryz.prog.cellsOf 32) (List.drop 0 [c0, c1, c2, c3, c4, c5, c6])) := hf 0 _ rfl
    have h1 : Rd enc Tryz.prog W 32 (List.take (Tryz.prog.cellsOf 32) (List.drop 3 [c0, c1, c2, c3, c4, c5, c6])) := hf 1 _ rfl
    have h2 : Rd enc Tryz.prog W 3 (List.take (Tryz.prog.cellsOf 3) (List.drop 6 [c0, c1, c2, c3, c4, c5, c6])) := hf 2 _ rfl
    simp only [show Tryz.prog.cellsOf 32 = 3 by kernel_rfl, show Tryz.prog.cellsOf 3 = 1 by kernel_rfl,
      List.drop_succ_cons, List.drop_zero, List.take_succ_cons, List.take_zero] at h0 h1 h2
    obtain ⟨f, e0, _⟩ := rd_stp h0
    obtain ⟨g, e1, _⟩ := rd_stp h1
    obtain ⟨p, e2, _, _⟩ := rd_i64 Tryz.underlying3 h2
    unfold enS at e0 e1
    cases e0; cases e1; cases e2
    exact ⟨f, g, p, rfl⟩
end Go.Proofs.YtipoeigehabbmaaGreatDoor.Mut
