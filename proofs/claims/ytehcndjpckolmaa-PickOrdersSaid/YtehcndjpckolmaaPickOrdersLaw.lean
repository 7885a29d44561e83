/- The walk of the law PickOrders (layer 43). -/
import Derived.Test.YtehcndjpckolmaaPickPlaces
import Derived.Test.YtehcndjpckolmaaPickAllLaw
namespace Go.Proofs.Ytehcndjpckolmaa.Pick
open Go.RowKit Go.Proofs.Ytehcndjpckolmaa.Ints

set_option maxRecDepth 100000 in
theorem orders_long (now : Int) (ao : Option Addr) (n ac : Nat) (w : World) (hl : 30 < n) :
    Calls Try.prog 4 #[.int .i64 now, .slice ao n ac] w fun e w' => e = .returned (.bool true) ∧ Below w.heap.size w w' := by
  have g1 : decide ((30 : Int) < n) = true := decide_eq_true (by omega)
  go_enter Try.func4, Try.ntmps4
  go_wp2
  go_ret
  exact ⟨rfl, Below.refl _ _⟩

set_option maxRecDepth 100000 in
set_option maxHeartbeats 4000000 in
theorem orders_short (now : Int) (ao : Option Addr) (ac : Nat) (l : List Need) (w : World) (ha : NRow w (.slice ao l.length ac) l) (hl : l.length ≤ 30) :
    Calls Try.prog 4 #[.int .i64 now, .slice ao l.length ac] w fun e w' => e = .returned (.bool true) ∧ Below w.heap.size w w' := by
  have HA := Lib.hid ha
  clear ha
  have g1 : decide ((30 : Int) < l.length) = false := decide_eq_false (by omega)
  have hol : (ordF now l).length ≤ 1000 := by rw [ordF_len]; have := wants_len now l; omega
  go_enter Try.func4, Try.ntmps4
  go_wp2_with fail
  go_loopw [5] (fun iv wr => ∃ k : Nat, k ≤ l.length ∧ iv = .int .i64 k ∧ Below w.heap.size w wr) (fun iv _ => l.length - (intOf iv).toNat)
  case atStart => exact ⟨0, by omega, rfl, Below.refl _ _⟩
  case round =>
    obtain ⟨k, hk, rfl, hbl⟩ := hrel
    have hsz := hbl.size
    have HAr := Lib.hid (Lst.below HA.out hbl)
    by_cases hlt : k < l.length
    · obtain ⟨xb, xoff, rfl, hxb, x0, x1, x2⟩ := need_at HAr.out (List.getElem?_eq_getElem hlt)
      generalize l[k] = x at *
      have n1 : (dueF x now != dueF x now) = false := by simp
      have n2 : (scoreF x now != scoreF x now) = false := by simp
      go_wp2_with fail
      refine wp_region_calm (by kernel_rfl) (by kernel_rfl) ?_
      repeat (go_big_quiet_step (first | (go_at_call 21; exact calm (due_n _ _ _)) | (go_at_call 22; exact calm (lawdue_n _ _ _)) | (go_at_call 23; exact calm (score_n _ _ _)) | (go_at_call 24; exact calm (lawscore_n _ _ _))))
      refine wpQuiet_nil ?_
      rintro _ ⟨z, rfl⟩
      go_wp2_with fail
      go_roundw
      case rel => exact ⟨k + 1, by omega, by go_num, below_then hbl (Nat.le_refl _) z.below⟩
      case measure => simp [intOf]; omega
    · go_wp2_with fail
      refine (order_any ao ac l now _ HAr.out (by omega)).mono ?_
      rintro e w1 ⟨v1, rfl, r1, b1, -⟩
      obtain ⟨o1, c1, rfl, -, -⟩ := Lst.form r1
      have R1 := Lib.hid (And.intro r1 (Lst.below HAr.out b1))
      have B1 := Lib.hid (below_then hbl (Nat.le_refl _) b1)
      clear r1 b1
      go_wp2_with fail
      refine (next_any ao ac l now _ R1.out.2 (by omega)).mono ?_
      rintro e w2 ⟨rfl, b2⟩
      have R2 := Lib.hid (And.intro (Lst.below R1.out.1 b2) (Lst.below R1.out.2 b2))
      have B2 := Lib.hid (below_then B1.out (Nat.le_refl _) b2)
      clear b2
      have hpl := places_any ao ac l now w2 R2.out.2 (by omega)
      have HPL := Lib.hid hpl
      obtain ⟨L, hL⟩ : ∃ L, L = ordF now l := ⟨_, rfl⟩
      rw [← hL] at hol R2 HPL R1 ⊢
      clear hL hpl
      cases L with
      | nil =>
        simp only [List.headD_nil, List.isEmpty_nil, Bool.not_true, List.length_nil]
        go_wp2_with fail
        refine HPL.out.mono ?_
        rintro e w3 ⟨v3, rfl, r3, b3, -⟩
        obtain ⟨o3, c3, rfl, -, -⟩ := Lst.form r3
        have R3 := Lib.hid (And.intro r3 (Lst.below R2.out.1 b3))
        have B3 := Lib.hid (below_then B2.out (Nat.le_refl _) b3)
        clear r3 b3
        simp only [List.length_nil]
        go_wp2_with fail
        refine (equal_lit true o3 o1 c3 c1 [] [] _ (eqI_self _) R3.out.1 R3.out.2 (by decide) (by decide)).mono ?_
        rintro e w4 ⟨rfl, b4⟩
        have B4 := Lib.hid (below_then B3.out (Nat.le_refl _) b4)
        clear b4
        go_wp2_with fail
        refine (alive_any _).mono ?_
        rintro e w5 ⟨rfl, b5⟩
        have B5 := Lib.hid (below_then B4.out (Nat.le_refl _) b5)
        clear b5
        go_wp2_with fail
        go_ret
        exact ⟨rfl, B5.out⟩
      | cons h t =>
        obtain ⟨ob, ooff, rfl, hob, oc0⟩ := int_at R2.out.1 (k := 0) rfl
        rw [Nat.add_zero] at oc0
        have hne : (h != h) = false := by simp
        simp only [List.headD_cons, List.isEmpty_cons, Bool.not_false]
        rw [List.length_cons] at hol ⊢
        go_wp2_with fail
        refine HPL.out.mono ?_
        rintro e w3 ⟨v3, rfl, r3, b3, -⟩
        obtain ⟨o3, c3, rfl, -, -⟩ := Lst.form r3
        have R3 := Lib.hid (And.intro r3 (Lst.below R2.out.1 b3))
        have B3 := Lib.hid (below_then B2.out (Nat.le_refl _) b3)
        clear r3 b3
        rw [List.length_cons]
        go_wp2_with fail
        refine (equal_lit true o3 _ c3 c1 (h :: t) (h :: t) _ (eqI_self _) R3.out.1 R3.out.2 (by simp; omega) (by simp; omega)).mono ?_
        rintro e w4 ⟨rfl, b4⟩
        have B4 := Lib.hid (below_then B3.out (Nat.le_refl _) b4)
        clear b4
        go_wp2_with fail
        refine (alive_any _).mono ?_
        rintro e w5 ⟨rfl, b5⟩
        have B5 := Lib.hid (below_then B4.out (Nat.le_refl _) b5)
        clear b5
        go_wp2_with fail
        go_ret
        exact ⟨rfl, B5.out⟩

theorem pickOrders_any (now : Int) (ao : Option Addr) (ac : Nat) (l : List Need) (w : World) (ha : NRow w (.slice ao l.length ac) l) :
    Calls Try.prog 4 #[.int .i64 now, .slice ao l.length ac] w fun e w' => e = .returned (.bool true) ∧ Below w.heap.size w w' := by
  by_cases h : 30 < l.length
  · exact orders_long now ao _ ac w h
  · exact orders_short now ao ac l w ha (by omega)
end Go.Proofs.Ytehcndjpckolmaa.Pick
