/- The walks of rows of entries (layer 36): the law's row, diffs.Sorted. -/
import Derived.Test.YtehcndjpckolmaaEntPut
namespace Go.Proofs.Ytehcndjpckolmaa.Diffs
open Go.RowKit Go.Proofs.Ytehcndjpckolmaa.Cmp

set_option maxRecDepth 100000 in
set_option maxHeartbeats 1000000 in
theorem row_any (ao : Option Addr) (ac : Nat) (l : List Ent) (w : World) (ha : ERow w (.slice ao l.length ac) l) (h1 : l.length ≤ 1000) :
    Calls Try.prog 15 #[.slice ao l.length ac] w (RowPost w (rowF l)) := by
  have HA := Lib.hid ha
  clear ha
  go_enter Try.func15, Try.ntmps15
  go_wp2_with fail
  go_loopw [3, 4] (fun ov iv wr => ∃ (k : Nat), k ≤ l.length ∧ iv = .int .i64 k ∧ Hid (ERow wr ov (rowF (l.take k))) ∧ Below w.heap.size w wr) (fun _ iv _ => l.length - (intOf iv).toNat)
  case atStart => exact ⟨0, by omega, rfl, Lib.hid (Lst.nil _), Below.refl _ _⟩
  case round =>
    obtain ⟨k, hk, rfl, hrow, hbl⟩ := hrel
    have hsz := hbl.size
    by_cases hlt : k < l.length
    · have HA' := Lib.hid (Lst.below HA.out hbl)
      obtain ⟨ab, aoff, rfl, hab, a0, a1, a2, a3⟩ := ERow.cells HA'.out hlt
      have htk := List.take_succ_eq_append_getElem hlt
      obtain ⟨y, hy⟩ : ∃ y, y = l[k] := ⟨_, rfl⟩
      rw [← hy] at a0 a1 a2 a3 htk
      have hpu := rowF_snoc (l.take k) y
      rw [← htk] at hpu
      have HP := Lib.hid hpu
      have hle : (rowF (l.take k)).length ≤ 1000 := by have := rowF_len (l.take k); have h3 := List.length_take_le k l; omega
      clear hy htk hpu
      obtain ⟨oo, oc, rfl, -, -⟩ := Lst.form hrow.out
      go_wp2_with fail
      refine (put_any oo oc (rowF (l.take k)) y _ hrow.out hle).mono ?_
      rintro e w2 ⟨v2, rfl, hr2, hb2⟩
      rw [← HP.out] at hr2
      have HR2 := Lib.hid hr2
      have hbl2 := below_then hbl (Nat.le_refl _) hb2
      clear hr2
      go_wp2
      go_roundw
      case rel => exact ⟨k + 1, by omega, by go_num, HR2, hbl2⟩
      case measure => simp [intOf]; omega
    · obtain rfl : k = l.length := by omega
      have hr := hrow.out
      rw [List.take_length] at hr
      have HR := Lib.hid hr
      clear hr
      go_wp2
      go_ret
      exact ⟨_, rfl, HR.out, hbl⟩

def sortF : List Ent → Bool
  | [] => true
  | [_] => true
  | x :: y :: t => !decide (0 ≤ entC x y) && sortF (y :: t)

set_option maxRecDepth 100000 in
set_option maxHeartbeats 1000000 in
theorem sorted_any (ao : Option Addr) (ac : Nat) (l : List Ent) (w : World) (ha : ERow w (.slice ao l.length ac) l) (h1 : l.length ≤ 1000) :
    Calls Try.prog 17 #[.slice ao l.length ac] w fun e w' => e = .returned (.bool (sortF l)) ∧ Below w.heap.size w w' := by
  have HA := Lib.hid ha
  clear ha
  go_enter Try.func17, Try.ntmps17
  go_wp2_with fail
  go_loopw [6] (fun iv wr => ∃ (k : Nat), k ≤ l.length ∧ iv = .int .i64 k ∧ Hid (sortF (l.drop (k - 1)) = sortF l) ∧ Below w.heap.size w wr) (fun iv _ => l.length - (intOf iv).toNat)
  case atStart => exact ⟨0, by omega, rfl, Lib.hid rfl, Below.refl _ _⟩
  case round =>
    obtain ⟨k, hk, rfl, hq0, hbl⟩ := hrel
    have hsz := hbl.size
    by_cases hlt : k < l.length
    · have HA' := Lib.hid (Lst.below HA.out hbl)
      obtain ⟨ab, aoff, rfl, hab, b0, b1, b2, b3⟩ := ERow.cells HA'.out hlt
      have hdl := List.drop_eq_getElem_cons hlt
      obtain ⟨y, hy⟩ : ∃ y, y = l[k] := ⟨_, rfl⟩
      rw [← hy] at b0 b1 b2 b3 hdl
      have HDL := Lib.hid hdl
      clear hy hdl
      cases k with
      | zero =>
        go_wp2_with fail
        refine wp_region_calm (by kernel_rfl) (by kernel_rfl) ?_
        repeat (go_big_quiet_step (first | (go_at_call 13; exact calm (compare_any _ _ _))))
        refine wpQuiet_nil ?_
        rintro _ ⟨z, rfl⟩
        go_wp2_with fail
        go_roundw
        case rel => exact ⟨1, by omega, by go_num, hq0, below_then hbl (Nat.le_refl _) z.below⟩
        case measure => simp [intOf]; omega
      | succ m =>
        obtain ⟨ab', aoff', hae, hab, a0, a1, a2, a3⟩ := ERow.cells HA'.out (show m < l.length by omega)
        cases hae
        have hdl := List.drop_eq_getElem_cons (show m < l.length by omega)
        obtain ⟨x, hx⟩ : ∃ x, x = l[m] := ⟨_, rfl⟩
        rw [← hx] at a0 a1 a2 a3 hdl
        rw [HDL.out] at hdl
        have HD := Lib.hid hdl
        clear hx hdl
        have hm1 : ((m + 1 : Nat) : Int) = (m : Int) + 1 := by omega
        cases hc : decide (0 ≤ entC x y)
        all_goals
          go_wp2_with fail
          refine wp_region_calm (by kernel_rfl) (by kernel_rfl) ?_
          repeat (go_big_quiet_step (first | (go_at_call 13; exact calm (compare_any _ _ _))))
          refine wpQuiet_nil ?_
          rintro _ ⟨z, rfl⟩
          go_wp2_with fail
        · go_roundw
          case rel => exact ⟨m + 2, by omega, by go_num, Lib.hid (by have := hq0.out; rw [Nat.add_sub_cancel, HD.out] at this; rw [show m + 2 - 1 = m + 1 by omega, HDL.out]; simpa only [sortF, hc, Bool.not_false, Bool.true_and] using this), below_then hbl (Nat.le_refl _) z.below⟩
          case measure => simp [intOf]; omega
        · go_ret
          exact ⟨by have := hq0.out; rw [Nat.add_sub_cancel, HD.out] at this; simp only [sortF, hc, Bool.not_true, Bool.false_and] at this; rw [← this]; rfl, below_then hbl (Nat.le_refl _) z.below⟩
    · obtain rfl : k = l.length := by omega
      have hs : sortF (l.drop (l.length - 1)) = true := by
        cases hd : l.drop (l.length - 1) with
        | nil => rfl
        | cons x t =>
          have h2 : (l.drop (l.length - 1)).length = l.length - (l.length - 1) := List.length_drop
          rw [hd] at h2
          cases t with
          | nil => rfl
          | cons y t => simp at h2; omega
      have HS := Lib.hid hs
      clear hs
      go_wp2_with fail
      go_ret
      exact ⟨by rw [← hq0.out, HS.out]; rfl, hbl⟩
end Go.Proofs.Ytehcndjpckolmaa.Diffs
