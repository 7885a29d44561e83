/- The walks of layer 5 (vector): the reference's Knows, Join, Meet, Covers. -/
import Derived.Test.YtehcndjpckolmaaVecRef2
namespace Go.Proofs.Ytehcndjpckolmaa.Vec
open Go.RowKit

def knowsF (l : List P) (d : P) : Bool := right d && decide (d.n ≤ getF l d.who)

set_option maxHeartbeats 1000000 in
theorem refknows_any (ao : Option Addr) (ac : Nat) (l : List P) (d : P) (w : World) (ha : DRow w (.slice ao l.length ac) l) (h1 : l.length ≤ 1000) :
    Calls Try.prog 47 #[.slice ao l.length ac, .agg #[.int .i64 d.who, .int .i64 d.n]] w fun e w' => e = .returned (.bool (knowsF l d)) ∧ Below w.heap.size w w' := by
  have HA := Lib.hid ha
  clear ha
  have hl : l.length ≤ 100000 := by omega
  unfold knowsF
  obtain ⟨m, hm⟩ : ∃ m, getF l d.who = m := ⟨_, rfl⟩
  rw [hm]
  have HA2 := Lib.hid (Lst.alloc HA.out (.cells #[.int .i64 d.who, .int .i64 d.n] 92))
  cases hr : right d
  all_goals
    go_enter Try.func47, Try.ntmps47
    go_wp2_with fail
    refine wp_region_calm (by kernel_rfl) (by kernel_rfl) ?_
    repeat (go_big_quiet_step (first | (go_at_call 49; exact calm (refright_lit _ _ _ hr)) | (go_at_call 51; exact calm_same (get_lit m _ _ _ _ _ hm (Lst.below HA2.out (BW.below _)) hl))))
    refine wpQuiet_nil ?_
    rintro _ ⟨z, rfl⟩
    go_wp2_with fail
    go_ret
    exact ⟨ret_bool (by simp), below_then ((Below.refl _ _).alloc (Nat.le_refl _) _) (Nat.le_refl _) z.below⟩

set_option maxRecDepth 100000 in
set_option maxHeartbeats 2000000 in
theorem refjoin_any (ao bo : Option Addr) (ac bc : Nat) (a b : List P) (w : World) (ga : Good a) (gb : Good b) (ha : DRow w (.slice ao a.length ac) a) (hb : DRow w (.slice bo b.length bc) b) (h1 : a.length ≤ 400) (h2 : b.length ≤ 400) :
    Calls Try.prog 56 #[.slice ao a.length ac, .slice bo b.length bc] w (RowPost w (joinF a b)) := by
  have HA := Lib.hid ha
  have HB := Lib.hid hb
  clear ha hb
  go_enter Try.func56, Try.ntmps56
  go_wp2_with fail
  go_loopw [5, 6] (fun ov iv wr => ∃ (k : Nat), k ≤ b.length ∧ iv = .int .i64 k ∧ Hid (DRow wr ov (joinF a (b.take k))) ∧ Below w.heap.size w wr) (fun _ iv _ => b.length - (vInt iv).toNat)
  case atStart => exact ⟨0, by omega, rfl, HA, Below.refl _ _⟩
  case round =>
    obtain ⟨k, hk, rfl, hrow, hbl⟩ := hrel
    have hsz := hbl.size
    by_cases hlt : k < b.length
    · have HB' := Lib.hid (Lst.below HB.out hbl)
      obtain ⟨ab, aoff, rfl, hab, a0, a1⟩ := dot_at HB'.out (List.getElem?_eq_getElem hlt)
      have htk := List.take_succ_eq_append_getElem hlt
      have hry : right b[k] = true := gb.2 _ (List.getElem_mem hlt)
      obtain ⟨y, hy⟩ : ∃ y, y = b[k] := ⟨_, rfl⟩
      rw [← hy] at a0 a1 htk hry
      have hpu := joinF_snoc a (b.take k) y
      rw [← htk] at hpu
      have hup := up_ref (joinF_good ga (b.take k)) y
      rw [← hpu] at hup
      have HP := Lib.hid hup
      have hle : (joinF a (b.take k)).length ≤ 1000 := by have := joinF_len a (b.take k); have h3 := List.length_take_le k b; omega
      clear hy htk hpu hup
      generalize joinF a (b.take k) = out at *
      obtain ⟨oo, oc, rfl, -, -⟩ := Lst.form hrow.out
      obtain ⟨m, hm⟩ : ∃ m, getF out y.who = m := ⟨_, rfl⟩
      rw [hm] at HP
      have hpo : out.length ≤ 100000 := by omega
      by_cases hc : m < y.n
      · have hpo2 : setF out y = joinF a (b.take (k + 1)) := by rw [← HP.out, if_pos ⟨hry, hc⟩]
        have HPO := Lib.hid hpo2
        clear hpo2 HP
        go_wp2_with fail
        refine wp_region_calm (by kernel_rfl) (by kernel_rfl) ?_
        repeat (go_big_quiet_step (first | (go_at_call 51; exact calm_same (get_lit m _ _ _ _ _ hm (Lst.below hrow.out (BW.below _)) hpo))))
        refine wpQuiet_nil ?_
        rintro _ ⟨z, rfl⟩
        have c0 := (z.below.cell (p := ⟨ab, aoff + k * 2, none⟩) hab).trans a0
        have c1 := (z.below.cell (p := ⟨ab, aoff + k * 2 + 1, none⟩) hab).trans a1
        have hab2 : ab < z.at.heap.size := Nat.lt_of_lt_of_le hab z.below.size
        have HR2 := Lib.hid (Lst.below hrow.out z.below)
        have HB2 := Lib.hid (below_then hbl (Nat.le_refl _) z.below)
        clear hrow hbl a0 a1
        generalize z.at = w2 at *
        go_wp2_with fail
        refine (set_any oo oc out y _ HR2.out hle).mono ?_
        rintro e w3 ⟨v3, rfl, hr3, hb3⟩
        rw [HPO.out] at hr3
        have HR3 := Lib.hid hr3
        clear hr3
        go_wp2
        go_roundw
        case rel => exact ⟨k + 1, by omega, by go_num, HR3, below_then HB2.out (Nat.le_refl _) hb3⟩
        case measure => simp [vInt]; omega
      · have hpo2 : out = joinF a (b.take (k + 1)) := by rw [← HP.out, if_neg (fun h => hc h.2)]
        have HPO := Lib.hid hpo2
        clear hpo2 HP
        go_wp2_with fail
        refine wp_region_calm (by kernel_rfl) (by kernel_rfl) ?_
        repeat (go_big_quiet_step (first | (go_at_call 51; exact calm_same (get_lit m _ _ _ _ _ hm (Lst.below hrow.out (BW.below _)) hpo))))
        refine wpQuiet_nil ?_
        rintro _ ⟨z, rfl⟩
        go_wp2_with fail
        go_roundw
        case rel => exact ⟨k + 1, by omega, by go_num, by rw [← HPO.out]; exact Lib.hid (Lst.below hrow.out z.below), below_then hbl (Nat.le_refl _) z.below⟩
        case measure => simp [vInt]; omega
    · obtain rfl : k = b.length := by omega
      have hr := hrow.out
      rw [List.take_length] at hr
      have HR := Lib.hid hr
      clear hr
      go_wp2
      go_ret
      exact ⟨_, rfl, HR.out, hbl⟩

set_option maxRecDepth 100000 in
set_option maxHeartbeats 1000000 in
theorem refcovers_any (ao bo : Option Addr) (ac bc : Nat) (a b : List P) (w : World) (ha : DRow w (.slice ao a.length ac) a) (hb : DRow w (.slice bo b.length bc) b) (h1 : a.length ≤ 400) (h2 : b.length ≤ 400) :
    Calls Try.prog 54 #[.slice ao a.length ac, .slice bo b.length bc] w fun e w' => e = .returned (.bool (coversF a b)) ∧ Below w.heap.size w w' := by
  have HA := Lib.hid ha
  have HB := Lib.hid hb
  have hl : a.length ≤ 100000 := by omega
  clear ha hb
  go_enter Try.func54, Try.ntmps54
  go_wp2_with fail
  go_loopw [5] (fun iv wr => ∃ (k : Nat), k ≤ b.length ∧ iv = .int .i64 k ∧ Hid (coversF a (b.drop k) = coversF a b) ∧ Below w.heap.size w wr) (fun iv _ => b.length - (vInt iv).toNat)
  case atStart => exact ⟨0, by omega, rfl, Lib.hid rfl, Below.refl _ _⟩
  case round =>
    obtain ⟨k, hk, rfl, hq, hbl⟩ := hrel
    have hsz := hbl.size
    by_cases hlt : k < b.length
    · have HA' := Lib.hid (Lst.below HA.out hbl)
      have HB' := Lib.hid (Lst.below HB.out hbl)
      obtain ⟨ab, aoff, rfl, hab, a0, a1⟩ := dot_at HB'.out (List.getElem?_eq_getElem hlt)
      have hdl := List.drop_eq_getElem_cons hlt
      obtain ⟨y, hy⟩ : ∃ y, y = b[k] := ⟨_, rfl⟩
      rw [← hy] at a0 a1 hdl
      have hq' := hq.out
      rw [hdl] at hq'
      have HQ := Lib.hid (show (decide (y.n ≤ getF a y.who) && coversF a (b.drop (k + 1))) = coversF a b from hq')
      clear hy hdl hq hq'
      obtain ⟨m, hm⟩ : ∃ m, getF a y.who = m := ⟨_, rfl⟩
      rw [hm] at HQ
      by_cases hc : m < y.n
      · have hf : coversF a b = false := by rw [← HQ.out, decide_eq_false (by omega)]; rfl
        have HF := Lib.hid hf
        clear hf HQ
        go_wp2_with fail
        refine wp_region_calm (by kernel_rfl) (by kernel_rfl) ?_
        repeat (go_big_quiet_step (first | (go_at_call 51; exact calm_same (get_lit m _ _ _ _ _ hm (Lst.below HA'.out (BW.below _)) hl))))
        refine wpQuiet_nil ?_
        rintro _ ⟨z, rfl⟩
        go_wp2_with fail
        go_ret
        exact ⟨ret_bool HF.out.symm, below_then hbl (Nat.le_refl _) z.below⟩
      · have hf : coversF a (b.drop (k + 1)) = coversF a b := by rw [← HQ.out, decide_eq_true (by omega)]; rfl
        have HF := Lib.hid hf
        clear hf HQ
        go_wp2_with fail
        refine wp_region_calm (by kernel_rfl) (by kernel_rfl) ?_
        repeat (go_big_quiet_step (first | (go_at_call 51; exact calm_same (get_lit m _ _ _ _ _ hm (Lst.below HA'.out (BW.below _)) hl))))
        refine wpQuiet_nil ?_
        rintro _ ⟨z, rfl⟩
        go_wp2_with fail
        go_roundw
        case rel => exact ⟨k + 1, by omega, by go_num, HF, below_then hbl (Nat.le_refl _) z.below⟩
        case measure => simp [vInt]; omega
    · obtain rfl : k = b.length := by omega
      have hr := hq.out
      rw [List.drop_length] at hr
      have HR := Lib.hid (show true = coversF a b from hr)
      clear hr
      go_wp2
      go_ret
      exact ⟨ret_bool HR.out, hbl⟩
end Go.Proofs.Ytehcndjpckolmaa.Vec
