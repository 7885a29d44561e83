/- The walks of layer 5 (vector): the reference's Of, Knows, Join, Meet, Covers. -/
import Derived.Test.YtehcndjpckolmaaVecRef
namespace Go.Proofs.Ytehcndjpckolmaa.Vec
open Go.RowKit

theorem refright_lit (q : Bool) (d : P) (w : World) (h : right d = q) :
    Calls Try.prog 49 #[.agg #[.int .i64 d.who, .int .i64 d.n]] w fun e w' => e = .returned (.bool q) ∧ Below w.heap.size w w' := by
  subst h; exact refright_any d w
theorem get_lit (m : Int) (ao : Option Addr) (ac : Nat) (l : List P) (who : Int) (w : World) (h : getF l who = m) (ha : DRow w (.slice ao l.length ac) l) (h1 : l.length ≤ 100000) :
    Calls Try.prog 51 #[.slice ao l.length ac, .int .i64 who] w fun e w' => e = .returned (.int .i64 m) ∧ w = w' := by
  subst h; exact get_any ao ac l who w ha h1

set_option maxRecDepth 100000 in
set_option maxHeartbeats 2000000 in
theorem refof_any (ao : Option Addr) (ac : Nat) (l : List P) (w : World) (ha : DRow w (.slice ao l.length ac) l) (h1 : l.length ≤ 1000) :
    Calls Try.prog 83 #[.slice ao l.length ac] w (RowPost w (ofF l)) := by
  have HA := Lib.hid ha
  clear ha
  go_enter Try.func83, Try.ntmps83
  go_wp2_with fail
  go_loopw [3, 4] (fun ov iv wr => ∃ (k : Nat), k ≤ l.length ∧ iv = .int .i64 k ∧ Hid (DRow wr ov (ofF (l.take k))) ∧ Below w.heap.size w wr) (fun _ iv _ => l.length - (vInt iv).toNat)
  case atStart => exact ⟨0, by omega, rfl, Lib.hid (Lst.nil _), Below.refl _ _⟩
  case round =>
    obtain ⟨k, hk, rfl, hrow, hbl⟩ := hrel
    have hsz := hbl.size
    by_cases hlt : k < l.length
    · have HA' := Lib.hid (Lst.below HA.out hbl)
      obtain ⟨ab, aoff, rfl, hab, a0, a1⟩ := dot_at HA'.out (List.getElem?_eq_getElem hlt)
      have htk := List.take_succ_eq_append_getElem hlt
      obtain ⟨y, hy⟩ : ∃ y, y = l[k] := ⟨_, rfl⟩
      rw [← hy] at a0 a1 htk
      have hpu := ofF_snoc (l.take k) y
      rw [← htk] at hpu
      have hup := up_ref (ofF_good (l.take k)) y
      rw [← hpu] at hup
      have HP := Lib.hid hup
      have hle : (ofF (l.take k)).length ≤ 1000 := by have := ofF_len (l.take k); have h3 := List.length_take_le k l; omega
      clear hy htk hpu hup
      generalize ofF (l.take k) = out at *
      obtain ⟨oo, oc, rfl, -, -⟩ := Lst.form hrow.out
      cases hr : right y
      · have hpo : out = ofF (l.take (k + 1)) := by rw [← HP.out, if_neg (by simp [hr])]
        have HPO := Lib.hid hpo
        clear hpo HP
        go_wp2_with fail
        refine wp_region_calm (by kernel_rfl) (by kernel_rfl) ?_
        repeat (go_big_quiet_step (first | (go_at_call 49; exact calm (refright_lit false _ _ hr))))
        refine wpQuiet_nil ?_
        rintro _ ⟨z, rfl⟩
        go_wp2_with fail
        go_roundw
        case rel => exact ⟨k + 1, by omega, by go_num, by rw [← HPO.out]; exact Lib.hid (Lst.below hrow.out z.below), below_then hbl (Nat.le_refl _) z.below⟩
        case measure => simp [vInt]; omega
      · obtain ⟨m, hm⟩ : ∃ m, getF out y.who = m := ⟨_, rfl⟩
        rw [hm] at HP
        have hpo : out.length ≤ 100000 := by omega
        by_cases hc : m < y.n
        · have hpo2 : setF out y = ofF (l.take (k + 1)) := by rw [← HP.out, if_pos ⟨hr, hc⟩]
          have HPO := Lib.hid hpo2
          clear hpo2 HP
          go_wp2_with fail
          refine wp_region_calm (by kernel_rfl) (by kernel_rfl) ?_
          repeat (go_big_quiet_step (first | (go_at_call 49; exact calm (refright_lit true _ _ hr)) | (go_at_call 51; exact calm_same (get_lit m _ _ _ _ _ hm (Lst.below hrow.out (BW.below _)) hpo))))
          refine wpQuiet_nil ?_
          rintro _ ⟨z, rfl⟩
          have c0 := (z.below.cell (p := ⟨ab, aoff + k * 2, none⟩) hab).trans a0
          have c1 := (z.below.cell (p := ⟨ab, aoff + k * 2 + 1, none⟩) hab).trans a1
          have hab2 : ab < z.at.heap.size := Nat.lt_of_lt_of_le hab z.below.size
          have HR2 := Lib.hid (Lst.below hrow.out z.below)
          have HB2 := Lib.hid (below_then hbl (Nat.le_refl _) z.below)
          clear hrow hbl a0 a1
          generalize z.at = w2 at *
          go_wp2_with fail
          refine (set_any oo oc out y _ HR2.out hle).mono ?_
          rintro e w3 ⟨v3, rfl, hr3, hb3⟩
          rw [HPO.out] at hr3
          have HR3 := Lib.hid hr3
          clear hr3
          go_wp2
          go_roundw
          case rel => exact ⟨k + 1, by omega, by go_num, HR3, below_then HB2.out (Nat.le_refl _) hb3⟩
          case measure => simp [vInt]; omega
        · have hpo2 : out = ofF (l.take (k + 1)) := by rw [← HP.out, if_neg (fun h => hc h.2)]
          have HPO := Lib.hid hpo2
          clear hpo2 HP
          go_wp2_with fail
          refine wp_region_calm (by kernel_rfl) (by kernel_rfl) ?_
          repeat (go_big_quiet_step (first | (go_at_call 49; exact calm (refright_lit true _ _ hr)) | (go_at_call 51; exact calm_same (get_lit m _ _ _ _ _ hm (Lst.below hrow.out (BW.below _)) hpo))))
          refine wpQuiet_nil ?_
          rintro _ ⟨z, rfl⟩
          go_wp2_with fail
          go_roundw
          case rel => exact ⟨k + 1, by omega, by go_num, by rw [← HPO.out]; exact Lib.hid (Lst.below hrow.out z.below), below_then hbl (Nat.le_refl _) z.below⟩
          case measure => simp [vInt]; omega
    · obtain rfl : k = l.length := by omega
      have hr := hrow.out
      rw [List.take_length] at hr
      have HR := Lib.hid hr
      clear hr
      go_wp2
      go_ret
      exact ⟨_, rfl, HR.out, hbl⟩
end Go.Proofs.Ytehcndjpckolmaa.Vec
