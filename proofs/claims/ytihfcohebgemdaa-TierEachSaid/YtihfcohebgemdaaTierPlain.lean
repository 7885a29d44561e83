/- Layer 18 (tier), in plain Lean: sizes, in which order places stand. No Go in sight. -/
import Derived.Test.YtihfcohebgemdaaSortPlain
import Derived.Test.YtihfcohebgemdaaSymPlain
import Derived.Test.YtihfcohebgemdaaOrd
set_option linter.unusedSimpArgs false
set_option linter.unusedVariables false
namespace Go.Proofs.Ytihfcohebgemdaa.Tier
open Go.Proofs.Ytihfcohebgemdaa.Sort Go.Proofs.Ytihfcohebgemdaa.Ord

/-- A size, from 0 on. -/
def sz (l : List Int) (i : Int) : Int := max (l.getD i.toNat 0) 0
def ltK (l : List Int) (x y : Int) : Bool := decide (cmpI (sz l x) (sz l y) < 0)
/-- How places stand: by sizes, then by themselves. -/
def R (l : List Int) (x y : Int) : Prop := sz l x < sz l y ∨ sz l x = sz l y ∧ x < y
theorem R_trans {l : List Int} {x y z : Int} (h : R l x y) (k : R l y z) : R l x z := by unfold R at *; omega
theorem R_asymm {l : List Int} {x y : Int} (h : R l x y) (k : R l y x) : False := by unfold R at *; omega
theorem R_tri (l : List Int) (x y : Int) : R l x y ∨ x = y ∨ R l y x := by unfold R; omega
theorem cmpI_lt (a b : Int) : cmpI a b < 0 ↔ a < b := by unfold cmpI; repeat' split <;> omega
theorem ltK_spec (l : List Int) (x y : Int) (h : y < x) : (ltK l x y = true → R l x y) ∧ (ltK l x y = false → R l y x) := by
  unfold ltK R
  constructor
  · intro h2; simp only [decide_eq_true_eq, cmpI_lt] at h2; omega
  · intro h2; simp only [decide_eq_false_iff_not, cmpI_lt] at h2; omega
end Go.Proofs.Ytihfcohebgemdaa.Tier
