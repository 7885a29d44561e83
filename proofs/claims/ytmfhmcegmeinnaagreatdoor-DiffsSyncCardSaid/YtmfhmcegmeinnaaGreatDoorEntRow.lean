/- The walks of rows of entries (layer 36): the law's row, diffs.Sorted. -/
import Derived.Test.YtmfhmcegmeinnaaGreatDoorEntPut
set_option linter.unusedSimpArgs false
set_option linter.unusedVariables false
namespace Go.Proofs.YtmfhmcegmeinnaaGreatDoor.Diffs
open Go.RowKit Go.Proofs.YtmfhmcegmeinnaaGreatDoor.Cmp

set_option maxRecDepth 100000 in
set_option maxHeartbeats 1000000 in
theorem row_any (ao : Option Addr) (ac : Nat) (l : List Ent) (w : World) (ha : ERow w (.slice ao l.length ac) l) (h1 : l.length ≤ 1000) :
    Calls Tryz.prog 36 #[.slice ao l.length ac] w (RowPost w (rowF l)) := by
  have HA := Lib.hid ha
  clear ha
  go_enter Tryz.func36, Tryz.ntmps36
  go_wp2_with fail
  go_loopw [3, 4] (fun ov iv wr => ∃ (k : Nat), k ≤ l.length ∧ iv = .int .i64 k ∧ Hid (ERow wr ov (rowF (l.take k))) ∧ Below w.heap.size w wr) (fun _ iv _ => l.length - (intOf iv).toNat)
  case atStart => exact ⟨0, by omega, rfl, Lib.hid (Lst.nil _), Below.refl _ _⟩
  case round =>
    obtain ⟨k, hk, rfl, hrow, hbl⟩ := hrel
    have hsz := hbl.size
    by_cases hlt : k < l.length
    · have HA' := Lib.hid (Lst.below HA.out hbl)
      obtain ⟨ab, aoff, rfl, hab, a0, a1, a2, a3⟩ := ERow.cells HA'.out hlt
      have htk := List.take_succ_eq_append_getElem hlt
      obtain ⟨y, hy⟩ : ∃ y, y = l[k] := ⟨_, rfl⟩
      rw [← hy] at a0 a1 a2 a3 htk
      have hpu := rowF_snoc (l.take k) y
      rw [← htk] at hpu
      have HP := Lib.hid hpu
      have hle : (rowF (l.take k)).length ≤ 1000 := by have := rowF_len (l.take k); have h3 := List.length_take_le k l; omega
      clear hy htk hpu
      obtain ⟨oo, oc, rfl, -, -⟩ := Lst.form hrow.out
      go_wp2_with fail
      refine (put_any oo oc (rowF (l.take k)) y _ hrow.out hle).mono ?_
      rintro e w2 ⟨v2, rfl, hr2, hb2⟩
      rw [← HP.out] at hr2
      have HR2 := Lib.hid hr2
      have hbl2 := below_then hbl (Nat.le_refl _) hb2
      clear hr2
      go_wp2
      go_roundw
      case rel => exact ⟨k + 1, by omega, by go_num, HR2, hbl2⟩
      case measure => simp [intOf]; omega
    · obtain rfl : k = l.length := by omega
      have hr := hrow.out
      rw [List.take_length] at hr
      have HR := Lib.hid hr
      clear hr
      go_wp2
      go_ret
      exact ⟨_, rfl, HR.out, hbl⟩

def sortF : List Ent → Bool
  | [] => true
  | [_] => true
  | x :: y :: t => !decide (0 ≤ entC x y) && sortF (y :: t)

end Go.Proofs.YtmfhmcegmeinnaaGreatDoor.Diffs
