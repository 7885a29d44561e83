/- The walks of rows of entries (layer 36): diffs.Diff, the law's alive. -/
import Derived.Test.YtmfhmcegmeinnaaGreatDoorEntDiff
set_option linter.unusedSimpArgs false
set_option linter.unusedVariables false
namespace Go.Proofs.YtmfhmcegmeinnaaGreatDoor.Diffs
open Go.RowKit Go.Proofs.YtmfhmcegmeinnaaGreatDoor.Cmp

set_option maxRecDepth 100000 in
theorem diff_any (ao bo : Option Addr) (ac bc : Nat) (a b : List Ent) (w : World) (ha : ERow w (.slice ao a.length ac) a) (hb : ERow w (.slice bo b.length bc) b) (h1 : a.length ≤ 1000) (h2 : b.length ≤ 1000) :
    Calls Tryz.prog 84 #[.slice ao a.length ac, .slice bo b.length bc] w (DiffPost w (walkF a b)) := by
  have HA := Lib.hid ha
  have HB := Lib.hid hb
  clear ha hb
  go_enter Tryz.func84, Tryz.ntmps84
  go_wp2_with fail
  refine (walk_any ao bo ac bc a b _ HA.out HB.out h1 h2).mono ?_
  rintro e w2 ⟨v1, v2, v3, rfl, r1, r2, r3, hb2⟩
  have R := Lib.hid (And.intro r1 (And.intro r2 r3))
  have HBL := Lib.hid hb2
  clear r1 r2 r3 hb2
  go_wp2
  go_ret3
  exact ⟨_, _, _, rfl, R.out.1, R.out.2.1, R.out.2.2, HBL.out⟩
end Go.Proofs.YtmfhmcegmeinnaaGreatDoor.Diffs
