/- Layer 11 (disk): the names "f" and "a" may be keys. -/
import Derived.Test.YtihfcohebgemdaaDoorDskNew
import Derived.Test.YtihfcohebgemdaaDoorMutRights
set_option linter.unusedSimpArgs false
set_option linter.unusedVariables false
namespace Go.Proofs.YtihfcohebgemdaaDoor.Dsk
open Go.RowKit Go.Proofs.YtihfcohebgemdaaDoor.Mut
set_option linter.unusedSectionVars false
variable [Inhabited Lim]

theorem key_f (w : World) (hT : Tabs w) : Calls Tryd.prog 14 #[.string ⟨#[102]⟩] w fun e w' => e = .returned (.bool true) ∧ Below w.heap.size w w' := by
  have h := key_any ⟨#[102]⟩ w hT (by decide)
  rwa [show keyF ⟨#[102]⟩ = true from by decide +kernel] at h
theorem key_a (w : World) (hT : Tabs w) : Calls Tryd.prog 14 #[.string ⟨#[97]⟩] w fun e w' => e = .returned (.bool true) ∧ Below w.heap.size w w' := by
  have h := key_any ⟨#[97]⟩ w hT (by decide)
  rwa [show keyF ⟨#[97]⟩ = true from by decide +kernel] at h
end Go.Proofs.YtihfcohebgemdaaDoor.Dsk
