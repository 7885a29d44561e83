/- Layer 18 (tier): a slice of ints as an argument. -/
import Derived.Test.YtihfcohebgemdaaKit
import Derived.Test.YtihfcohebgemdaaArgLst
import Derived.Test.YtihfcohebgemdaaInts
set_option linter.unusedSimpArgs false
set_option linter.unusedVariables false
namespace Go.Proofs.Ytihfcohebgemdaa.Tier
open Go.RowKit Go.Proofs.Ytihfcohebgemdaa.Kit Go.Proofs.Ytihfcohebgemdaa.Ints Go.Deep Go.ChangeShapes Go.WideShapes Go.ChangeAt

theorem arg_ints {H : Type} {enc : TypeId × Value → H} {W : World} {v : Value} (h : Arg enc Try.prog W 22 v) : ∃ ao cap l, v = .slice ao (List.length l) cap ∧ IRow W v l := by
  obtain ⟨ao, cap, l, h1, h2, h3, h4⟩ := arg_lst (α := Int) (en := enI) (good := fun _ => True) Try.underlying22 (show Try.prog.cellsOf 3 = 1 by kernel_rfl) (by decide) (fun cs hr => by
    obtain ⟨a, hc, _⟩ := rd_int Try.underlying3 hr
    exact ⟨a, hc, trivial⟩) h
  exact ⟨ao, cap, l, h1, h2⟩
end Go.Proofs.Ytihfcohebgemdaa.Tier
