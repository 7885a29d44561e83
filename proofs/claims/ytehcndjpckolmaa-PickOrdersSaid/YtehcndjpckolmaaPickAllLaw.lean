/- The walk of the law PickAll (layer 43), and ranges as an argument. -/
import Derived.Test.YtehcndjpckolmaaPickLaw
import Derived.Test.YtehcndjpckolmaaPickAllPlain
import Derived.Test.YtehcndjpckolmaaArgLst
namespace Go.Proofs.Ytehcndjpckolmaa.Pick
open Go.RowKit Go.Proofs.Ytehcndjpckolmaa.Ints Go.Proofs.Ytehcndjpckolmaa.Kit

instance : Inhabited Need := ⟨none_⟩
theorem arg_needs {H : Type} {enc : TypeId × Value → H} {W : World} {v : Value} (h : Arg enc Try.prog W 35 v) : ∃ ao cap l, v = .slice ao (List.length l) cap ∧ NRow W v l ∧ (ao = none → cap = 0) := by
  obtain ⟨ao, cap, l, h1, h2, h3, _⟩ := arg_lst (α := Need) (en := enN) (good := fun _ => True) Try.underlying35 (show Try.prog.cellsOf 37 = 3 by kernel_rfl) (by decide) (fun cs hr => by
    obtain ⟨v0, v1, v2, rfl, r0, r1, r2⟩ := rd_struct3 Try.underlying37 (by kernel_rfl) (by kernel_rfl) hr
    obtain ⟨a, rfl, _, _⟩ := rd_i64 Try.underlying3 r0
    obtain ⟨b, rfl, _, _⟩ := rd_i64 Try.underlying3 r1
    obtain ⟨c, rfl, _, _⟩ := rd_i64 Try.underlying3 r2
    exact ⟨⟨a, b, c⟩, rfl, trivial⟩) h
  exact ⟨ao, cap, l, h1, h2, h3⟩

set_option maxRecDepth 100000 in
theorem all_out (now : Int) (ao : Option Addr) (n ac : Nat) (w : World) (h : n < 1 ∨ 8 < n ∨ now < 1000 ∨ 1073741824 < now) :
    Calls Try.prog 5 #[.slice ao n ac, .int .i64 now] w fun e w' => e = .returned (.bool true) ∧ Below w.heap.size w w' := by
  by_cases h1 : n < 1
  · have g1 : decide ((n : Int) < 1) = true := decide_eq_true (by omega)
    go_enter Try.func5, Try.ntmps5
    go_wp2
    go_ret
    exact ⟨rfl, Below.refl _ _⟩
  have g1 : decide ((n : Int) < 1) = false := decide_eq_false (by omega)
  by_cases h2 : 8 < n
  · have g2 : decide ((8 : Int) < n) = true := decide_eq_true (by omega)
    go_enter Try.func5, Try.ntmps5
    go_wp2
    go_ret
    exact ⟨rfl, Below.refl _ _⟩
  have g2 : decide ((8 : Int) < n) = false := decide_eq_false (by omega)
  by_cases h3 : now < 1000
  · go_enter Try.func5, Try.ntmps5
    go_wp2
    go_ret
    exact ⟨rfl, Below.refl _ _⟩
  have h3' : 1000 ≤ now := by omega
  have h4 : 1073741824 < now := by omega
  go_enter Try.func5, Try.ntmps5
  go_wp2
  go_ret
  exact ⟨rfl, Below.refl _ _⟩

set_option maxRecDepth 100000 in
set_option maxHeartbeats 2000000 in
theorem all_in (now : Int) (ao : Option Addr) (ac : Nat) (l : List Need) (w : World) (ha : NRow w (.slice ao l.length ac) l) (h1 : 1 ≤ l.length) (h2 : l.length ≤ 8) (h3 : 1000 ≤ now) (h4 : now ≤ 1073741824) :
    Calls Try.prog 5 #[.slice ao l.length ac, .int .i64 now] w fun e w' => e = .returned (.bool true) ∧ Below w.heap.size w w' := by
  have HA := Lib.hid ha
  clear ha
  have g1 : decide ((l.length : Int) < 1) = false := decide_eq_false (by omega)
  have g2 : decide ((8 : Int) < l.length) = false := decide_eq_false (by omega)
  go_enter Try.func5, Try.ntmps5
  go_wp2_with fail
  go_loop [5] (fun iv => ∃ k : Nat, k ≤ l.length ∧ iv = .int .i64 k ∧ Hid (∀ x ∈ l.take k, now - 1000 ≤ x.last ∧ x.last ≤ now ∧ x.waste ≤ 9 ∧ x.waiting ≤ 0)) (fun iv => l.length - (intOf iv).toNat)
  case atStart => exact ⟨0, by omega, rfl, Lib.hid (by simp)⟩
  case round =>
    obtain ⟨k, hk, rfl, hgood⟩ := hrel
    by_cases hlt : k < l.length
    · obtain ⟨xb, xoff, rfl, hxb, x0, x1, x2⟩ := need_at HA.out (List.getElem?_eq_getElem hlt)
      have htk := List.take_succ_eq_append_getElem hlt
      generalize l[k] = x at *
      have HTK := Lib.hid htk
      clear htk
      by_cases q1 : 0 < x.waiting
      · go_wp2_with fail
        go_ret
        exact ⟨rfl, Below.refl _ _⟩
      have q1' : x.waiting ≤ 0 := by omega
      by_cases q2 : 9 < x.waste
      · go_wp2_with fail
        go_ret
        exact ⟨rfl, Below.refl _ _⟩
      have q2' : x.waste ≤ 9 := by omega
      by_cases q3 : x.last < now - 1000
      · go_wp2_with fail
        go_ret
        exact ⟨rfl, Below.refl _ _⟩
      have q3' : now - 1000 ≤ x.last := by omega
      by_cases q4 : now < x.last
      · go_wp2_with fail
        go_ret
        exact ⟨rfl, Below.refl _ _⟩
      have q4' : x.last ≤ now := by omega
      have HQ := Lib.hid (show ∀ y ∈ l.take (k + 1), now - 1000 ≤ y.last ∧ y.last ≤ now ∧ y.waste ≤ 9 ∧ y.waiting ≤ 0 by
        rw [HTK.out]
        intro y hy
        rcases List.mem_append.1 hy with h | h
        · exact hgood.out y h
        · simp at h; subst h; exact ⟨q3', q4', q2', q1'⟩)
      clear q1 q2 q3 q4
      go_wp2_with fail
      go_round
      case rel => exact ⟨k + 1, by omega, by go_num, HQ⟩
      case measure => simp [intOf]; omega
    · obtain rfl : k = l.length := by omega
      have hg := hgood.out
      rw [List.take_length] at hg
      have hall := plan_each l now h3 h4 h2 hg
      have HALL := Lib.hid hall
      clear hg hall
      go_wp2_with fail
      refine (plan_any (now + 5) (now + 5 + 10 * l.length) 5 (2 * l.length) ao ac l _ HA.out (by omega)).mono ?_
      rintro e w2 ⟨pv, rfl, hp, hb2, -⟩
      have hpl := planS_len (cutM (now + 5 + 10 * l.length)) (min (max 5 1) 1099511627776) (2 * l.length) 1000 (cutM (now + 5)) [] l
      simp only [List.length_nil, Nat.zero_add] at hpl
      generalize planS (cutM (now + 5 + 10 * l.length)) (min (max 5 1) 1099511627776) (2 * l.length) 1000 (cutM (now + 5)) [] l = P at *
      obtain ⟨po, pc, rfl, -, -⟩ := Lst.form hp
      have HP := Lib.hid hp
      have HB2 := Lib.hid hb2
      clear hp hb2
      go_wp2_with fail
      go_loopw [7] (fun iv wr => ∃ k : Nat, k ≤ l.length ∧ iv = .int .i64 k ∧ wr = w2) (fun iv _ => l.length - (intOf iv).toNat)
      case atStart => exact ⟨0, by omega, rfl, rfl⟩
      case round =>
        obtain ⟨i, hi, rfl, rfl⟩ := hrel
        by_cases hlt2 : i < l.length
        · have hm := (hasI_iff P i).2 (HALL.out i hlt2)
          have HM := Lib.hid hm
          clear hm
          go_wp2_with fail
          refine (contains_lit true po pc P i _ HM.out HP.out (by omega)).mono ?_
          rintro e w' ⟨rfl, rfl⟩
          go_wp2_with fail
          go_roundw
          case rel => exact ⟨i + 1, by omega, by go_num, trivial⟩
          case measure => simp [intOf]; omega
        · go_wp2_with fail
          refine (alive_any _).mono ?_
          rintro e w4 ⟨rfl, hb4⟩
          have HB4 := Lib.hid (below_then HB2.out (Nat.le_refl _) hb4)
          clear hb4
          go_wp2_with fail
          go_ret
          exact ⟨rfl, HB4.out⟩

theorem pickAll_any (now : Int) (ao : Option Addr) (ac : Nat) (l : List Need) (w : World) (ha : NRow w (.slice ao l.length ac) l) :
    Calls Try.prog 5 #[.slice ao l.length ac, .int .i64 now] w fun e w' => e = .returned (.bool true) ∧ Below w.heap.size w w' := by
  by_cases h : l.length < 1 ∨ 8 < l.length ∨ now < 1000 ∨ 1073741824 < now
  · exact all_out now ao _ ac w h
  · exact all_in now ao ac l w ha (by omega) (by omega) (by omega) (by omega)
theorem pickPlans_any (fr tk each most : Int) (ao : Option Addr) (ac : Nat) (l : List Need) (w : World) (ha : NRow w (.slice ao l.length ac) l) (hnil : ao = none → ac = 0) :
    Calls Try.prog 6 #[.agg #[.int .i64 fr, .int .i64 tk, .int .i64 each, .int .i64 most], .slice ao l.length ac] w fun e w' => e = .returned (.bool true) ∧ Below w.heap.size w w' := by
  by_cases h : 10 < l.length
  · exact plans_long fr tk each most ao _ ac w h
  · exact plans_short fr tk each most ao ac l w ha (by omega) hnil
end Go.Proofs.Ytehcndjpckolmaa.Pick
