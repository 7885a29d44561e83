/- RefRight, RefRight2: in one text. -/
import Derived.Test.YtljlbkichcjlfaaGreatDoorRefKey
import Derived.Test.YtljlbkichcjlfaaGreatDoorRefCompare
import Derived.Test.YtljlbkichcjlfaaGreatDoorMutRights
set_option linter.unusedSimpArgs false
set_option linter.unusedVariables false
/- The walks of cenotaphref04.in, Right; cenotaphref07.overs (layers 4, 7). -/
namespace Go.Proofs.YtljlbkichcjlfaaGreatDoor.Mut
open Go.RowKit Go.Sort Go.Proofs.YtljlbkichcjlfaaGreatDoor.Ord
set_option linter.unusedSectionVars false
variable [Inhabited Lim]

def inF (n : Int) : Bool := decide (0 ≤ n) && decide (n ≤ 1099511627776)
theorem stR_in (s : Stp) : stR s = (inF s.p && (inF s.l && (inF s.w && decide (0 < s.p + s.l + s.w)))) := by
  unfold stR inF
  by_cases a1 : 0 ≤ s.p <;> by_cases a2 : 0 ≤ s.l <;> by_cases a3 : 0 ≤ s.w <;> by_cases b1 : s.p ≤ 1099511627776 <;> by_cases b2 : s.l ≤ 1099511627776 <;> by_cases b3 : s.w ≤ 1099511627776
  all_goals (try simp only [a1, a2, a3, b1, b2, b3, decide_true, decide_false, Bool.true_and, Bool.false_and, Bool.and_false])
  by_cases h : 0 < s.p + s.l + s.w
  · rw [decide_eq_true h]
    by_cases c1 : s.p = 0 <;> by_cases c2 : s.l = 0 <;> by_cases c3 : s.w = 0 <;> simp [c1, c2, c3] <;> omega
  · rw [decide_eq_false h]
    have c1 : s.p = 0 := by omega
    have c2 : s.l = 0 := by omega
    have c3 : s.w = 0 := by omega
    simp [c1, c2, c3]
end Go.Proofs.YtljlbkichcjlfaaGreatDoor.Mut

/- The walk of cenotaphref07.Right (layer 7). PRINTED by wip/genrefright.py. -/
namespace Go.Proofs.YtljlbkichcjlfaaGreatDoor.Mut
open Go.RowKit Go.Sort Go.Proofs.YtljlbkichcjlfaaGreatDoor.Ord
set_option linter.unusedSectionVars false
variable [Inhabited Lim]

end Go.Proofs.YtljlbkichcjlfaaGreatDoor.Mut
