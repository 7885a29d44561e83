/- Layer 6 (dots): a slice of writes as an argument. -/
import Derived.Test.YtihfcohebgemdaaKit
import Derived.Test.YtihfcohebgemdaaArgLst
import Derived.Test.YtihfcohebgemdaaDotCmp
set_option linter.unusedSimpArgs false
set_option linter.unusedVariables false
namespace Go.Proofs.Ytihfcohebgemdaa.Dots
open Go.RowKit Go.Proofs.Ytihfcohebgemdaa.Kit Go.Proofs.Ytihfcohebgemdaa.Vec Go.Deep Go.ChangeShapes Go.WideShapes Go.ChangeAt

theorem arg_dots {H : Type} {enc : TypeId × Value → H} {W : World} {v : Value} (h : Arg enc Try.prog W 31 v) : ∃ ao cap l, v = .slice ao (List.length l) cap ∧ DRow W v l ∧ Sm l := by
  obtain ⟨ao, cap, l, h1, h2, h3, h4⟩ := arg_lst (α := P) (en := enD) (good := fun x => x.who ≤ 9223372036854775807) Try.underlying31 (show Try.prog.cellsOf 33 = 2 by kernel_rfl) (by decide) (fun cs hr => by
    obtain ⟨v0, v1, rfl, r0, r1⟩ := rd_struct2 Try.underlying33 (by kernel_rfl) (by kernel_rfl) hr
    obtain ⟨a, rfl, _, ha⟩ := rd_i64 Try.underlying3 r0
    obtain ⟨b, rfl, _, _⟩ := rd_i64 Try.underlying3 r1
    exact ⟨⟨a, b⟩, rfl, ha⟩) h
  exact ⟨ao, cap, l, h1, h2, h4⟩
end Go.Proofs.Ytihfcohebgemdaa.Dots
