/- The walk of the law VectorKnows (layer 5). -/
import Derived.Test.YtehcndjpckolmaaVecLaws
namespace Go.Proofs.Ytehcndjpckolmaa.Vec
open Go.RowKit Go.Maps Go.Proofs.Ytehcndjpckolmaa.Kit

theorem refknows_lit (q : Bool) (ao : Option Addr) (ac : Nat) (l : List P) (d : P) (w : World) (h : knowsF l d = q) (ha : DRow w (.slice ao l.length ac) l) (h1 : l.length ≤ 1000) :
    Calls Try.prog 47 #[.slice ao l.length ac, .agg #[.int .i64 d.who, .int .i64 d.n]] w fun e w' => e = .returned (.bool q) ∧ Below w.heap.size w w' := by
  subst h; exact refknows_any ao ac l d w ha h1

theorem knows_out (ao : Option Addr) (n ac : Nat) (d : P) (w : World) (h : 100 < n) :
    Calls Try.prog 9 #[.slice ao n ac, .agg #[.int .i64 d.who, .int .i64 d.n]] w fun e w' => e = .returned (.bool true) ∧ Below w.heap.size w w' := by
  have g1 : decide ((100 : Int) < n) = true := decide_eq_true (by omega)
  go_enter Try.func9, Try.ntmps9
  go_wp2
  go_ret
  exact ⟨rfl, (Below.refl _ _).alloc (Nat.le_refl _) _⟩

set_option maxRecDepth 100000 in
set_option maxHeartbeats 8000000 in
theorem knows_in (ao : Option Addr) (ac : Nat) (l : List P) (d : P) (w : World) (ha : DRow w (.slice ao l.length ac) l) (sa : Sm l) (h1 : l.length ≤ 100) (d1 : -9223372036854775808 ≤ d.who) (d2 : d.who ≤ 9223372036854775807) :
    Calls Try.prog 9 #[.slice ao l.length ac, .agg #[.int .i64 d.who, .int .i64 d.n]] w fun e w' => e = .returned (.bool true) ∧ Below w.heap.size w w' := by
  have HA := Lib.hid ha
  clear ha
  have g1 : decide ((100 : Int) < l.length) = false := decide_eq_false (by omega)
  have gL := ofF_good l
  have sL := Sm.of sa
  have lL := ofF_len l
  have hlaw := fun w ha => lawof_any ao ac l w ha h1 sa
  unfold OfPost at hlaw
  obtain ⟨L, hL⟩ : ∃ L, L = ofF l := ⟨_, rfl⟩
  rw [← hL] at gL sL lL hlaw
  clear hL
  have HLAW := Lib.hid hlaw
  clear hlaw
  cases hq : knowsF L d <;> cases hr : right d
  all_goals
    go_enter Try.func9, Try.ntmps9
    go_wp2_with fail
    refine (HLAW.out _ (Lst.below HA.out ((Below.refl _ _).alloc (Nat.le_refl _) _))).mono ?_
    rintro e w2 ⟨b, so, sc, rfl, hv, hrow, hb2⟩
    have hs2 := hb2.size
    rw [World.size_alloc] at hs2
    have hlt : w.heap.size < w2.heap.size := by omega
    have c0 := (hb2.cell (p := ⟨w.heap.size, 0, none⟩) (by simp)).trans (show (w.alloc (.cells #[.int .i64 d.who, .int .i64 d.n] 83)).cell? ⟨w.heap.size, 0, none⟩ = some (.int .i64 d.who) by go_simp)
    have c1 := (hb2.cell (p := ⟨w.heap.size, 1, none⟩) (by simp)).trans (show (w.alloc (.cells #[.int .i64 d.who, .int .i64 d.n] 83)).cell? ⟨w.heap.size, 1, none⟩ = some (.int .i64 d.n) by go_simp)
    have HB := Lib.hid (below_then ((Below.refl w.heap.size w).alloc (Nat.le_refl _) (.cells #[.int .i64 d.who, .int .i64 d.n] 83)) (Nat.le_refl _) hb2)
    have HV := Lib.hid hv
    have HR := Lib.hid hrow
    clear hv hrow hb2 hs2
    go_wp2_with fail
    refine wp_region_calm (by kernel_rfl) (by kernel_rfl) ?_
    repeat (go_big_quiet_step (first
      | (go_at_call 45; exact calm (is_any b so sc L _ gL sL (HV.out.below (BW.below _)) (Lst.below HR.out (BW.below _)) (by omega)))
      | (go_at_call 46; exact calm (knows_lit _ b L d _ hq (HV.out.below (BW.below _)) d1 d2))
      | (go_at_call 47; exact calm (refknows_lit _ so sc L d _ hq (Lst.below HR.out (BW.below _)) (by omega)))
      | (go_at_call 48; exact calm (right_lit _ d _ hr))
      | (go_at_call 49; exact calm (refright_lit _ d _ hr))
      | (go_at_call 50; exact calm (alive_any _))))
    refine wpQuiet_nil ?_
    rintro _ ⟨z, rfl⟩
    go_wp2_with fail
    go_ret
    exact ⟨rfl, below_then HB.out (Nat.le_refl _) z.below⟩

theorem vectorKnows_any (ao : Option Addr) (ac : Nat) (l : List P) (d : P) (w : World) (ha : DRow w (.slice ao l.length ac) l) (sa : Sm l) (d1 : -9223372036854775808 ≤ d.who) (d2 : d.who ≤ 9223372036854775807) :
    Calls Try.prog 9 #[.slice ao l.length ac, .agg #[.int .i64 d.who, .int .i64 d.n]] w fun e w' => e = .returned (.bool true) ∧ Below w.heap.size w w' := by
  by_cases h : 100 < l.length
  · exact knows_out ao _ ac d w h
  · exact knows_in ao ac l d w ha sa (by omega) d1 d2
end Go.Proofs.Ytehcndjpckolmaa.Vec
