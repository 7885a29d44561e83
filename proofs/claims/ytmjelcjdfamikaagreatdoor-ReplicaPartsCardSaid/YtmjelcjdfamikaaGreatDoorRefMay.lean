/- RefRight, RefRight2: in one text. -/
import Derived.Test.YtmjelcjdfamikaaGreatDoorRefKey
import Derived.Test.YtmjelcjdfamikaaGreatDoorRefCompare
import Derived.Test.YtmjelcjdfamikaaGreatDoorMutRights
set_option linter.unusedSimpArgs false
set_option linter.unusedVariables false
/- The walks of cenotaphref04.in, Right; cenotaphref07.overs (layers 4, 7). -/
namespace Go.Proofs.YtmjelcjdfamikaaGreatDoor.Mut
open Go.RowKit Go.Sort Go.Proofs.YtmjelcjdfamikaaGreatDoor.Ord
set_option linter.unusedSectionVars false
variable [Inhabited Lim]

def inF (n : Int) : Bool := decide (0 ≤ n) && decide (n ≤ 1099511627776)
theorem in_any (n : Int) (w : World) : Calls Tryz.prog 111 #[.int .i64 n] w fun e w' => e = .returned (.bool (inF n)) ∧ w = w' := by
  unfold inF
  by_cases h1 : 0 ≤ n
  · have e1 : decide (0 ≤ n) = true := decide_eq_true h1
    by_cases h2 : n ≤ 1099511627776
    · have e2 : decide (n ≤ 1099511627776) = true := decide_eq_true h2
      go_enter Tryz.func111, Tryz.ntmps111
      go_wp2_with fail
      go_ret
      exact ⟨ret_bool (by first | rfl | simp [e1, e2]), rfl⟩
    · have e2 : decide (n ≤ 1099511627776) = false := decide_eq_false h2
      go_enter Tryz.func111, Tryz.ntmps111
      go_wp2_with fail
      go_ret
      exact ⟨ret_bool (by first | rfl | simp [e1, e2]), rfl⟩
  · have e1 : decide (0 ≤ n) = false := decide_eq_false h1
    go_enter Tryz.func111, Tryz.ntmps111
    go_wp2_with fail
    go_ret
    exact ⟨ret_bool (by first | rfl | simp [e1]), rfl⟩
theorem stR_in (s : Stp) : stR s = (inF s.p && (inF s.l && (inF s.w && decide (0 < s.p + s.l + s.w)))) := by
  unfold stR inF
  by_cases a1 : 0 ≤ s.p <;> by_cases a2 : 0 ≤ s.l <;> by_cases a3 : 0 ≤ s.w <;> by_cases b1 : s.p ≤ 1099511627776 <;> by_cases b2 : s.l ≤ 1099511627776 <;> by_cases b3 : s.w ≤ 1099511627776
  all_goals (try simp only [a1, a2, a3, b1, b2, b3, decide_true, decide_false, Bool.true_and, Bool.false_and, Bool.and_false])
  by_cases h : 0 < s.p + s.l + s.w
  · rw [decide_eq_true h]
    by_cases c1 : s.p = 0 <;> by_cases c2 : s.l = 0 <;> by_cases c3 : s.w = 0 <;> simp [c1, c2, c3] <;> omega
  · rw [decide_eq_false h]
    have c1 : s.p = 0 := by omega
    have c2 : s.l = 0 := by omega
    have c3 : s.w = 0 := by omega
    simp [c1, c2, c3]
set_option maxHeartbeats 1000000 in
theorem refstR_any (s : Stp) (w : World) : Calls Tryz.prog 70 #[vS s] w fun e w' => e = .returned (.bool (stR s)) ∧ RowKit.Below w.heap.size w w' := by
  rw [stR_in]
  obtain ⟨p, l, h⟩ := s
  simp only []
  have hb := (Below.refl _ w).alloc (Nat.le_refl _) (.cells #[.int .i64 p, .int .i64 l, .int .i64 h] 37)
  have HB := Lib.hid hb
  have H1 := Lib.hid (fun W => in_any p W)
  have H2 := Lib.hid (fun W => in_any l W)
  have H3 := Lib.hid (fun W => in_any h W)
  have hbp : inF p = true → 0 ≤ p ∧ p ≤ 1099511627776 := fun h => by unfold inF at h; simpa using h
  have hbl : inF l = true → 0 ≤ l ∧ l ≤ 1099511627776 := fun h => by unfold inF at h; simpa using h
  have hbh : inF h = true → 0 ≤ h ∧ h ≤ 1099511627776 := fun h => by unfold inF at h; simpa using h
  obtain ⟨a, ha⟩ : ∃ a, a = inF p := ⟨_, rfl⟩
  obtain ⟨b, hb'⟩ : ∃ a, a = inF l := ⟨_, rfl⟩
  obtain ⟨c, hc⟩ : ∃ a, a = inF h := ⟨_, rfl⟩
  rw [← ha] at H1 hbp ⊢
  rw [← hb'] at H2 hbl ⊢
  rw [← hc] at H3 hbh ⊢
  clear ha hb' hc hb
  cases a
  · clear hbp hbl hbh
    go_enter Tryz.func70, Tryz.ntmps70
    go_wp2_with fail
    refine (H1.out _).mono ?_
    rintro e w' ⟨rfl, rfl⟩
    go_wp2_with fail
    go_ret
    exact ⟨rfl, HB.out⟩
  cases b
  · clear hbp hbl hbh
    go_enter Tryz.func70, Tryz.ntmps70
    go_wp2_with fail
    refine (H1.out _).mono ?_
    rintro e w' ⟨rfl, rfl⟩
    go_wp2_with fail
    refine (H2.out _).mono ?_
    rintro e w' ⟨rfl, rfl⟩
    go_wp2_with fail
    go_ret
    exact ⟨rfl, HB.out⟩
  cases c
  · clear hbp hbl hbh
    go_enter Tryz.func70, Tryz.ntmps70
    go_wp2_with fail
    refine (H1.out _).mono ?_
    rintro e w' ⟨rfl, rfl⟩
    go_wp2_with fail
    refine (H2.out _).mono ?_
    rintro e w' ⟨rfl, rfl⟩
    go_wp2_with fail
    refine (H3.out _).mono ?_
    rintro e w' ⟨rfl, rfl⟩
    go_wp2_with fail
    go_ret
    exact ⟨rfl, HB.out⟩
  obtain ⟨p1, p2⟩ := hbp rfl
  obtain ⟨l1, l2⟩ := hbl rfl
  obtain ⟨h1, h2⟩ := hbh rfl
  clear hbp hbl hbh
  go_enter Tryz.func70, Tryz.ntmps70
  go_wp2_with fail
  refine (H1.out _).mono ?_
  rintro e w' ⟨rfl, rfl⟩
  go_wp2_with fail
  refine (H2.out _).mono ?_
  rintro e w' ⟨rfl, rfl⟩
  go_wp2_with fail
  refine (H3.out _).mono ?_
  rintro e w' ⟨rfl, rfl⟩
  go_wp2_with fail
  go_ret
  exact ⟨rfl, HB.out⟩

set_option maxHeartbeats 8000000 in
set_option maxRecDepth 100000 in
theorem overs_any (v : Value) (l : List Stp) (t : Stp) (w : World) (hv : SRow w v l) (hn : l.length ≤ 1000000) :
    Calls Tryz.prog 71 #[v, vS t] w fun e w' => e = .returned (.bool (overF l t)) ∧ RowKit.Below w.heap.size w w' := by
  obtain ⟨ao, ac, rfl, -, -⟩ := Lst.form hv
  obtain ⟨n, hne⟩ : ∃ n, n = l.length := ⟨_, rfl⟩
  have hR : overF l t = (overFrom t none l && decide (n ≤ 24)) := by rw [hne]; rfl
  rw [hR]
  rw [← hne] at hv hn ⊢
  by_cases h24 : 24 < n
  · rw [decide_eq_false (by omega), Bool.and_false]
    have hd : decide ((24 : Int) < (n : Int)) = true := decide_eq_true (by omega)
    clear hv hR
    obtain ⟨tp, tl, tw⟩ := t
    go_enter Tryz.func71, Tryz.ntmps71
    go_wp2_with fail
    go_ret
    exact ⟨rfl, (Below.refl _ _).alloc (Nat.le_refl _) _⟩
  rw [decide_eq_true (by omega), Bool.and_true]
  obtain ⟨Q, hQ⟩ : ∃ Q, Q = overFrom t none l := ⟨_, rfl⟩
  rw [← hQ]
  have hd : decide ((24 : Int) < (n : Int)) = false := decide_eq_false (by omega)
  have HV := Lib.hid hv
  have HN := Lib.hid hne
  have HQ := Lib.hid hQ
  have HS := Lib.hid (fun (s : Stp) (W : World) => refstR_any s W)
  have HL := Lib.hid (fun (a b : Stp) (W : World) => refless_any a b W)
  obtain ⟨T, hT⟩ : ∃ T, T = t := ⟨_, rfl⟩
  rw [← hT] at HQ
  have HT := Lib.hid hT
  obtain ⟨tp, tl, tw⟩ := t
  obtain ⟨W0, hW0⟩ : ∃ W0, W0 = w.alloc (.cells #[.int .i64 tp, .int .i64 tl, .int .i64 tw] 37) := ⟨_, rfl⟩
  have t0 : W0.cell? ⟨w.heap.size, 0, none⟩ = some (.int .i64 tp) := by rw [hW0]; go_simp
  have t1 : W0.cell? ⟨w.heap.size, 1, none⟩ = some (.int .i64 tl) := by rw [hW0]; go_simp
  have t2 : W0.cell? ⟨w.heap.size, 2, none⟩ = some (.int .i64 tw) := by rw [hW0]; go_simp
  have hb0 : RowKit.Below w.heap.size w W0 := by rw [hW0]; exact (Below.refl _ _).alloc (Nat.le_refl _) _
  have hs0 : w.heap.size < W0.heap.size := by rw [hW0]; simp
  have HT3 := Lib.hid (And.intro t0 (And.intro t1 t2))
  have HB0 := Lib.hid hb0
  have HW0 := Lib.hid hW0
  clear hv hne hR hQ hT t0 t1 t2 hb0 hW0
  go_enter Tryz.func71, Tryz.ntmps71
  go_wp2_with fail
  rw [← HW0.out]
  clear HW0 hd
  go_loopw [5] (fun iv wr => ∃ k : Nat, k ≤ n ∧ iv = .int .i64 k ∧ (∃ prev, Hid (overFrom T prev (l.drop k) = Q ∧ (k = 0 ∧ prev = none ∨ ∃ p, 0 < k ∧ l[k - 1]? = some p ∧ prev = some p))) ∧ Hid (RowKit.Below W0.heap.size W0 wr)) (fun iv _ => n - (intOf iv).toNat)
  case atStart => exact ⟨0, by omega, rfl, ⟨none, Lib.hid ⟨HQ.out.symm, Or.inl ⟨rfl, rfl⟩⟩⟩, Lib.hid (Below.refl _ _)⟩
  case round =>
    obtain ⟨k, hk, rfl, ⟨prev, hrow⟩, hl⟩ := hrel
    have HBW := Lib.hid (below_then HB0.out (Nat.le_refl _) hl.out)
    by_cases hlt : k < n
    · have hka : k < l.length := by have := HN.out; omega
      obtain ⟨x, hx⟩ : ∃ x, l[k]? = some x := ⟨_, List.getElem?_eq_getElem hka⟩
      have hxe : l[k] = x := (List.getElem?_eq_some_iff.1 hx).2
      have hrw : (stR x && (decide (stC x T < 0) && (aheadB prev x && overFrom T (some x) (l.drop (k + 1))))) = Q := by
        have := hrow.out.1
        rw [List.drop_eq_getElem_cons hka, hxe] at this
        exact this
      have HX := Lib.hid hx
      have HSX := Lib.hid (fun W => HS.out x W)
      have HLX := Lib.hid (fun W => HL.out x T W)
      have HPX := HLX
      have hpv := hrow.out.2
      have hgr : w.heap.size < wr.heap.size := Nat.lt_of_lt_of_le hs0 hl.out.size
      rw [HT.out] at HLX hrw HPX ⊢
      obtain ⟨D, hD⟩ : ∃ D, D = decide (stC x ⟨tp, tl, tw⟩ < 0) := ⟨_, rfl⟩
      obtain ⟨E, hE⟩ : ∃ E, E = stR x := ⟨_, rfl⟩
      rw [← hD] at HLX hrw
      rw [← hE] at HSX hrw
      have HRW := Lib.hid hrw
      clear hrw hD hE hrow hxe
      have j0 : (0 : Int) ≤ (k : Int) := by omega
      have j1 : (k : Int) < (n : Int) := by omega
      obtain ⟨xp, xl, xw⟩ := x
      have HPV := Lib.hid hpv
      clear hpv hx
      cases E
      · have HRZ := Lib.hid (show false = Q from HRW.out)
        obtain ⟨xb, xoff, hao, hxb, x0, x1, x2⟩ := stamp_at (HV.out.below HBW.out) HX.out
        cases hao
        obtain ⟨t0, t1, t2⟩ : wr.cell? ⟨w.heap.size, 0, none⟩ = some (.int .i64 tp) ∧ wr.cell? ⟨w.heap.size, 1, none⟩ = some (.int .i64 tl) ∧ wr.cell? ⟨w.heap.size, 2, none⟩ = some (.int .i64 tw) := ⟨(hl.out.cell (p := ⟨w.heap.size, 0, none⟩) hs0).trans HT3.out.1, (hl.out.cell (p := ⟨w.heap.size, 1, none⟩) hs0).trans HT3.out.2.1, (hl.out.cell (p := ⟨w.heap.size, 2, none⟩) hs0).trans HT3.out.2.2⟩
        simp only [] at x0 x1 x2
        go_wp2_with fail
        refine wp_region_calm (by kernel_rfl) (by kernel_rfl) ?_
        repeat (go_big_quiet_step (first
          | (go_at_call 70; exact calm (HSX.out _))
          | (go_at_call 76; exact calm (HLX.out _))
          | (go_at_call 76; exact calm (HPX.out _))))
        refine wpQuiet_nil ?_
        rintro _ ⟨y, rfl⟩
        go_wp2_with fail
        go_ret
        exact ⟨ret_bool HRZ.out, below_then HBW.out (Nat.le_refl _) y.below⟩
      cases D
      · have HRZ := Lib.hid (show false = Q from HRW.out)
        obtain ⟨xb, xoff, hao, hxb, x0, x1, x2⟩ := stamp_at (HV.out.below HBW.out) HX.out
        cases hao
        obtain ⟨t0, t1, t2⟩ : wr.cell? ⟨w.heap.size, 0, none⟩ = some (.int .i64 tp) ∧ wr.cell? ⟨w.heap.size, 1, none⟩ = some (.int .i64 tl) ∧ wr.cell? ⟨w.heap.size, 2, none⟩ = some (.int .i64 tw) := ⟨(hl.out.cell (p := ⟨w.heap.size, 0, none⟩) hs0).trans HT3.out.1, (hl.out.cell (p := ⟨w.heap.size, 1, none⟩) hs0).trans HT3.out.2.1, (hl.out.cell (p := ⟨w.heap.size, 2, none⟩) hs0).trans HT3.out.2.2⟩
        simp only [] at x0 x1 x2
        go_wp2_with fail
        refine wp_region_calm (by kernel_rfl) (by kernel_rfl) ?_
        repeat (go_big_quiet_step (first
          | (go_at_call 70; exact calm (HSX.out _))
          | (go_at_call 76; exact calm (HLX.out _))
          | (go_at_call 76; exact calm (HPX.out _))))
        refine wpQuiet_nil ?_
        rintro _ ⟨y, rfl⟩
        go_wp2_with fail
        go_ret
        exact ⟨ret_bool HRZ.out, below_then HBW.out (Nat.le_refl _) y.below⟩
      have HRW2 := Lib.hid (show (aheadB prev ⟨xp, xl, xw⟩ && overFrom ⟨tp, tl, tw⟩ (some ⟨xp, xl, xw⟩) (l.drop (k + 1))) = Q from HRW.out)
      clear HRW HPX
      rcases HPV.out with ⟨rfl, rfl⟩ | ⟨pp, hk0, hpk, rfl⟩
      · have HRZ := Lib.hid (show overFrom ⟨tp, tl, tw⟩ (some ⟨xp, xl, xw⟩) (l.drop (0 + 1)) = Q from HRW2.out)
        have HPX := HLX
        obtain ⟨xb, xoff, hao, hxb, x0, x1, x2⟩ := stamp_at (HV.out.below HBW.out) HX.out
        cases hao
        obtain ⟨t0, t1, t2⟩ : wr.cell? ⟨w.heap.size, 0, none⟩ = some (.int .i64 tp) ∧ wr.cell? ⟨w.heap.size, 1, none⟩ = some (.int .i64 tl) ∧ wr.cell? ⟨w.heap.size, 2, none⟩ = some (.int .i64 tw) := ⟨(hl.out.cell (p := ⟨w.heap.size, 0, none⟩) hs0).trans HT3.out.1, (hl.out.cell (p := ⟨w.heap.size, 1, none⟩) hs0).trans HT3.out.2.1, (hl.out.cell (p := ⟨w.heap.size, 2, none⟩) hs0).trans HT3.out.2.2⟩
        simp only [Nat.zero_mul, Nat.add_zero] at x0 x1 x2
        go_wp2_with fail
        refine wp_region_calm (by kernel_rfl) (by kernel_rfl) ?_
        repeat (go_big_quiet_step (first
          | (go_at_call 70; exact calm (HSX.out _))
          | (go_at_call 76; exact calm (HLX.out _))
          | (go_at_call 76; exact calm (HPX.out _))))
        refine wpQuiet_nil ?_
        rintro _ ⟨y, rfl⟩
        obtain ⟨W1, hW1⟩ : ∃ W1, W1 = y.at := ⟨_, rfl⟩
        have hy := y.below
        rw [← hW1] at hy ⊢
        have HY1 := Lib.hid (below_then hl.out (Nat.le_refl _) hy)
        have HBY := Lib.hid (below_then HB0.out (Nat.le_refl _) HY1.out)
        have hgy : w.heap.size < W1.heap.size := Nat.lt_of_lt_of_le hs0 HY1.out.size
        clear hW1 y hy x0 x1 x2 t0 t1 t2 hxb
        go_wp2_with fail
        refine wp_region_calm (by kernel_rfl) (by kernel_rfl) ?_
        repeat (go_big_quiet_step (first
          | (go_at_call 70; exact calm (HSX.out _))
          | (go_at_call 76; exact calm (HLX.out _))
          | (go_at_call 76; exact calm (HPX.out _))))
        refine wpQuiet_nil ?_
        rintro _ ⟨y, rfl⟩
        have HF := Lib.hid (below_then HY1.out (Nat.le_refl _) y.below)
        go_wp2_with fail
        go_roundw
        case rel => exact ⟨0 + 1, by omega, by go_num, ⟨some ⟨xp, xl, xw⟩, Lib.hid ⟨by first | exact HRZ.out | (rw [HT.out]; exact HRZ.out), Or.inr ⟨_, by omega, HX.out, rfl⟩⟩⟩, HF⟩
        case measure => simp [intOf]; omega
      · obtain ⟨j, rfl⟩ : ∃ j, k = j + 1 := ⟨k - 1, by omega⟩
        have hpk' : l[j]? = some pp := hpk
        have HPP := Lib.hid hpk'
        have HPXq := Lib.hid (fun W => HL.out pp ⟨xp, xl, xw⟩ W)
        obtain ⟨G, hG⟩ : ∃ G, G = decide (stC pp ⟨xp, xl, xw⟩ < 0) := ⟨_, rfl⟩
        have HRW3 := Lib.hid (show (G && overFrom ⟨tp, tl, tw⟩ (some ⟨xp, xl, xw⟩) (l.drop (j + 1 + 1))) = Q by rw [hG]; exact HRW2.out)
        rw [← hG] at HPXq
        have HPX := HLX
        clear hG hpk hpk' HRW2 HPV hk0
        obtain ⟨ppp, ppl, ppw⟩ := pp
        obtain ⟨xb, xoff, hao, hxb, x0, x1, x2⟩ := stamp_at (HV.out.below HBW.out) HX.out
        cases hao
        obtain ⟨t0, t1, t2⟩ : wr.cell? ⟨w.heap.size, 0, none⟩ = some (.int .i64 tp) ∧ wr.cell? ⟨w.heap.size, 1, none⟩ = some (.int .i64 tl) ∧ wr.cell? ⟨w.heap.size, 2, none⟩ = some (.int .i64 tw) := ⟨(hl.out.cell (p := ⟨w.heap.size, 0, none⟩) hs0).trans HT3.out.1, (hl.out.cell (p := ⟨w.heap.size, 1, none⟩) hs0).trans HT3.out.2.1, (hl.out.cell (p := ⟨w.heap.size, 2, none⟩) hs0).trans HT3.out.2.2⟩
        simp only [] at x0 x1 x2
        go_wp2_with fail
        refine wp_region_calm (by kernel_rfl) (by kernel_rfl) ?_
        repeat (go_big_quiet_step (first
          | (go_at_call 70; exact calm (HSX.out _))
          | (go_at_call 76; exact calm (HLX.out _))
          | (go_at_call 76; exact calm (HPX.out _))))
        refine wpQuiet_nil ?_
        rintro _ ⟨y, rfl⟩
        obtain ⟨W1, hW1⟩ : ∃ W1, W1 = y.at := ⟨_, rfl⟩
        have hy := y.below
        rw [← hW1] at hy ⊢
        have HY1 := Lib.hid (below_then hl.out (Nat.le_refl _) hy)
        have HBY := Lib.hid (below_then HB0.out (Nat.le_refl _) HY1.out)
        have hgy : w.heap.size < W1.heap.size := Nat.lt_of_lt_of_le hs0 HY1.out.size
        clear hW1 y hy x0 x1 x2 t0 t1 t2 hxb
        clear HPX
        have HPX := HPXq
        obtain ⟨xb, xoff, hao, hxb, x0, x1, x2⟩ := stamp_at (HV.out.below HBY.out) HX.out
        cases hao
        obtain ⟨t0, t1, t2⟩ : W1.cell? ⟨w.heap.size, 0, none⟩ = some (.int .i64 tp) ∧ W1.cell? ⟨w.heap.size, 1, none⟩ = some (.int .i64 tl) ∧ W1.cell? ⟨w.heap.size, 2, none⟩ = some (.int .i64 tw) := ⟨(HY1.out.cell (p := ⟨w.heap.size, 0, none⟩) hs0).trans HT3.out.1, (HY1.out.cell (p := ⟨w.heap.size, 1, none⟩) hs0).trans HT3.out.2.1, (HY1.out.cell (p := ⟨w.heap.size, 2, none⟩) hs0).trans HT3.out.2.2⟩
        simp only [] at x0 x1 x2
        obtain ⟨pb, poff, hao, hpb, p0, p1, p2⟩ := stamp_at (HV.out.below HBY.out) HPP.out
        cases hao
        simp only [] at p0 p1 p2
        have j2 : (0 : Int) ≤ (j : Int) := by omega
        have j3 : (j : Int) < (n : Int) := by omega
        have j4 : IntKind.i64.wrap (((j + 1 : Nat) : Int) - 1) = (j : Int) := by rw [show ((j + 1 : Nat) : Int) - 1 = (j : Int) by omega]; exact IntWalk.i64_in _ (by omega)
        have j5 : IntKind.i64.wrap ((j : Int) + 1 - 1) = (j : Int) := by rw [show (j : Int) + 1 - 1 = (j : Int) by omega]; exact IntWalk.i64_in _ (by omega)
        have j6 : (0 : Int) < ((j + 1 : Nat) : Int) := by omega
        have j7 : decide ((0 : Int) < (j : Int) + 1) = true := decide_eq_true (by omega)
        cases G
        · have HRZ := Lib.hid (show false = Q from HRW3.out)
          go_wp2_with fail
          refine wp_region_calm (by kernel_rfl) (by kernel_rfl) ?_
          repeat (go_big_quiet_step (first
            | (go_at_call 70; exact calm (HSX.out _))
            | (go_at_call 76; exact calm (HLX.out _))
            | (go_at_call 76; exact calm (HPX.out _))))
          refine wpQuiet_nil ?_
          rintro _ ⟨y, rfl⟩
          go_wp2_with fail
          go_ret
          exact ⟨ret_bool HRZ.out, below_then HBY.out (Nat.le_refl _) y.below⟩
        · have HRZ := Lib.hid (show overFrom ⟨tp, tl, tw⟩ (some ⟨xp, xl, xw⟩) (l.drop (j + 1 + 1)) = Q from HRW3.out)
          go_wp2_with fail
          refine wp_region_calm (by kernel_rfl) (by kernel_rfl) ?_
          repeat (go_big_quiet_step (first
            | (go_at_call 70; exact calm (HSX.out _))
            | (go_at_call 76; exact calm (HLX.out _))
            | (go_at_call 76; exact calm (HPX.out _))))
          refine wpQuiet_nil ?_
          rintro _ ⟨y, rfl⟩
          have HF := Lib.hid (below_then HY1.out (Nat.le_refl _) y.below)
          clear j4 j5 j6 j7
          go_wp2_with fail
          go_roundw
          case rel => exact ⟨j + 1 + 1, by omega, by go_num, ⟨some ⟨xp, xl, xw⟩, Lib.hid ⟨by first | exact HRZ.out | (rw [HT.out]; exact HRZ.out), Or.inr ⟨_, by omega, HX.out, rfl⟩⟩⟩, HF⟩
          case measure => simp [intOf]; omega
    · obtain rfl : k = n := by omega
      have HRZ := Lib.hid (show true = Q by
        have h := hrow.out.1
        rw [List.drop_of_length_le (by have := HN.out; omega)] at h
        exact h)
      go_wp2_with fail
      go_ret
      exact ⟨ret_bool HRZ.out, HBW.out⟩
end Go.Proofs.YtmjelcjdfamikaaGreatDoor.Mut

/- The walk of cenotaphref07.Right (layer 7). PRINTED by wip/genrefright.py. -/
namespace Go.Proofs.YtmjelcjdfamikaaGreatDoor.Mut
open Go.RowKit Go.Sort Go.Proofs.YtmjelcjdfamikaaGreatDoor.Ord
set_option linter.unusedSectionVars false
variable [Inhabited Lim]

set_option maxHeartbeats 16000000 in
set_option maxRecDepth 100000 in
theorem refright_any (x : Ro) (w : World) (hT : Tabs w) (hx : Over w x) (h1 : x.1.over.length ≤ 1000000) (hk : x.1.key.size ≤ 1000000) (hf : x.1.fin.size ≤ 1000000) (hv : x.1.val.size ≤ 1000000) :
    Calls Tryz.prog 35 #[vM x] w fun e w' => e = .returned (.bool (rightF x.1)) ∧ RowKit.Below w.heap.size w w' := by
  have HS := Lib.hid (fun (W : World) => refstR_any x.1.at_ W)
  have HK := Lib.hid (fun (W : World) (h : RowKit.Below w.heap.size w W) => refkey_any x.1.key W (hT.below h) hk)
  have HF := Lib.hid (fun (W : World) (h : RowKit.Below w.heap.size w W) => refkey_any x.1.fin W (hT.below h) hf)
  have HV := Lib.hid (fun (W : World) (h : RowKit.Below w.heap.size w W) => refval_any x.1.val W (hT.below h) hv)
  have HO := Lib.hid (fun (W : World) (h : RowKit.Below w.heap.size w W) => overs_any x.2 x.1.over x.1.at_ W (hx.below h).lst h1)
  have hA0 := A0.of (At.new w 40 x)
  have hB0 : RowKit.Below w.heap.size w (w.alloc (.cells (enM x).toArray 40)) := (Below.refl _ _).alloc (Nat.le_refl _) _
  have hLE : Op.bytesLess x.1.key.toList x.1.fin.toList = lessS x.1.key x.1.fin := rfl
  have hR : rightF x.1 = rightG (stR x.1.at_) (keyF x.1.key) (overF x.1.over x.1.at_) (valF x.1.val) x.1.val.toList.isEmpty (keyF x.1.fin) x.1.fin.toList.isEmpty (lessS x.1.key x.1.fin) x.1.expiry x.1.kind x.1.table x.1.over.length := rfl
  rw [hR]
  clear hR
  obtain ⟨ao, cap, e1, -, -⟩ := Over.form hx
  obtain ⟨⟨tb, k, key, fin, val, ex, ⟨p, l, h⟩, ov⟩, av⟩ := x
  simp only [] at *
  subst e1
  obtain ⟨a, ha⟩ : ∃ a, a = stR ⟨p, l, h⟩ := ⟨_, rfl⟩
  obtain ⟨b, hb⟩ : ∃ a, a = keyF key := ⟨_, rfl⟩
  obtain ⟨c, hc⟩ : ∃ a, a = overF ov ⟨p, l, h⟩ := ⟨_, rfl⟩
  obtain ⟨d, hd⟩ : ∃ a, a = valF val := ⟨_, rfl⟩
  obtain ⟨f, hff⟩ : ∃ a, a = keyF fin := ⟨_, rfl⟩
  obtain ⟨q, hq⟩ : ∃ a, a = lessS key fin := ⟨_, rfl⟩
  obtain ⟨ve, hve⟩ : ∃ a, a = val.toList.isEmpty := ⟨_, rfl⟩
  obtain ⟨fe, hfe⟩ : ∃ a, a = fin.toList.isEmpty := ⟨_, rfl⟩
  rw [← ha] at HS; rw [← hb] at HK; rw [← hc] at HO; rw [← hd] at HV; rw [← hff] at HF; rw [← hq] at hLE
  rw [← ha, ← hb, ← hc, ← hd, ← hff, ← hq, ← hve, ← hfe]
  unfold vM
  simp only []
  generalize ov.length = n at *
  have HA0 := Lib.hid hA0
  have HB0 := Lib.hid hB0
  have HLE := Lib.hid hLE
  have HVE := Lib.hid hve
  have HFE := Lib.hid hfe
  clear ha hb hc hd hff hq hve hfe hA0 hB0 hLE hT hx h1 hk hf hv
  go_enter Tryz.func35, Tryz.ntmps35
  go_wp2_with fail
  refine (HS.out _).mono ?_
  rintro e w1 ⟨rfl, hb⟩
  have HA1 := Lib.hid (HA0.out.below hb)
  have HB1 := Lib.hid (below_then HB0.out (Nat.le_refl _) hb)
  clear hb
  obtain ⟨-, z0, z1, z2, z3, z4, z5, z6, z7, z8, z9⟩ := HA1.out
  simp only [] at z0 z1 z2 z3 z4 z5 z6 z7 z8 z9
  cases a
  · skip
    go_wp2_with fail
    go_ret
    exact ⟨ret_bool (by simp [rightG] <;> omega), HB1.out⟩
  go_wp2_with fail
  clear z0 z1 z2 z3 z4 z5 z6 z7 z8 z9
  refine (HO.out _ HB1.out).mono ?_
  rintro e w2 ⟨rfl, hb⟩
  have HA2 := Lib.hid (HA1.out.below hb)
  have HB2 := Lib.hid (below_then HB1.out (Nat.le_refl _) hb)
  clear hb
  obtain ⟨-, z0, z1, z2, z3, z4, z5, z6, z7, z8, z9⟩ := HA2.out
  simp only [] at z0 z1 z2 z3 z4 z5 z6 z7 z8 z9
  cases c
  · skip
    go_wp2_with fail
    go_ret
    exact ⟨ret_bool (by simp [rightG] <;> omega), HB2.out⟩
  go_wp2_with fail
  clear z0 z1 z2 z3 z4 z5 z6 z7 z8 z9
  refine (HK.out _ HB2.out).mono ?_
  rintro e w3 ⟨rfl, hb⟩
  have HA3 := Lib.hid (HA2.out.below hb)
  have HB3 := Lib.hid (below_then HB2.out (Nat.le_refl _) hb)
  clear hb
  obtain ⟨-, z0, z1, z2, z3, z4, z5, z6, z7, z8, z9⟩ := HA3.out
  simp only [] at z0 z1 z2 z3 z4 z5 z6 z7 z8 z9
  cases b
  · skip
    go_wp2_with fail
    go_ret
    exact ⟨ret_bool (by simp [rightG] <;> omega), HB3.out⟩
  go_wp2_with fail
  clear z0 z1 z2 z3 z4 z5 z6 z7 z8 z9
  refine (HV.out _ HB3.out).mono ?_
  rintro e w4 ⟨rfl, hb⟩
  have HA4 := Lib.hid (HA3.out.below hb)
  have HB4 := Lib.hid (below_then HB3.out (Nat.le_refl _) hb)
  clear hb
  obtain ⟨-, z0, z1, z2, z3, z4, z5, z6, z7, z8, z9⟩ := HA4.out
  simp only [] at z0 z1 z2 z3 z4 z5 z6 z7 z8 z9
  cases d
  · skip
    go_wp2_with fail
    go_ret
    exact ⟨ret_bool (by simp [rightG] <;> omega), HB4.out⟩
  by_cases t1 : tb = 1
  · subst t1
    by_cases n0 : n = 0
    · subst n0
      by_cases k1 : k = 1
      · subst k1
        by_cases e0 : ex = 0
        · subst e0
          cases fe
          · have hfe := HFE.out.symm
            go_wp2_with fail
            go_ret
            exact ⟨ret_bool (by simp [rightG] <;> omega), HB4.out⟩
          · have hfe := HFE.out.symm
            go_wp2_with fail
            go_ret
            exact ⟨ret_bool (by simp [rightG] <;> omega), HB4.out⟩
        have e0m : (ex != 0) = true := by simp [e0]
        have e0d : decide (ex = 0) = false := by simp [e0]
        by_cases e1 : ex < 0
        · have e1d : decide (ex < 0) = true := decide_eq_true e1
          go_wp2_with fail
          go_ret
          exact ⟨ret_bool (by simp [rightG, e1] <;> omega), HB4.out⟩
        have e1d : decide (ex < 0) = false := decide_eq_false e1
        by_cases e2 : 1099511627776 < ex
        · have e2d : decide (1099511627776 < ex) = true := decide_eq_true e2
          go_wp2_with fail
          go_ret
          exact ⟨ret_bool (by simp [rightG, e1, e2] <;> omega), HB4.out⟩
        have e2d : decide (1099511627776 < ex) = false := decide_eq_false e2
        have e3 : 0 < ex := by omega
        cases fe
        · have hfe := HFE.out.symm
          go_wp2_with fail
          go_ret
          exact ⟨ret_bool (by simp [rightG, e1, e2] <;> omega), HB4.out⟩
        · have hfe := HFE.out.symm
          go_wp2_with fail
          go_ret
          exact ⟨ret_bool (by simp [rightG, e1, e2] <;> omega), HB4.out⟩
      by_cases k2 : k = 2
      · subst k2
        cases ve
        · have hve := HVE.out.symm
          go_wp2_with fail
          go_ret
          exact ⟨ret_bool (by simp [rightG] <;> omega), HB4.out⟩
        have hve := HVE.out.symm
        by_cases e0 : ex = 0
        · subst e0
          cases fe
          · have hfe := HFE.out.symm
            go_wp2_with fail
            go_ret
            exact ⟨ret_bool (by simp [rightG] <;> omega), HB4.out⟩
          · have hfe := HFE.out.symm
            go_wp2_with fail
            go_ret
            exact ⟨ret_bool (by simp [rightG] <;> omega), HB4.out⟩
        have e0m : (ex != 0) = true := by simp [e0]
        have e0d : decide (ex = 0) = false := by simp [e0]
        by_cases e1 : ex < 0
        · have e1d : decide (ex < 0) = true := decide_eq_true e1
          go_wp2_with fail
          go_ret
          exact ⟨ret_bool (by simp [rightG, e1] <;> omega), HB4.out⟩
        have e1d : decide (ex < 0) = false := decide_eq_false e1
        by_cases e2 : 1099511627776 < ex
        · have e2d : decide (1099511627776 < ex) = true := decide_eq_true e2
          go_wp2_with fail
          go_ret
          exact ⟨ret_bool (by simp [rightG, e1, e2] <;> omega), HB4.out⟩
        have e2d : decide (1099511627776 < ex) = false := decide_eq_false e2
        have e3 : 0 < ex := by omega
        go_wp2_with fail
        go_ret
        exact ⟨ret_bool (by simp [rightG, e1, e2, e3] <;> omega), HB4.out⟩
      by_cases k3 : k = 3
      · subst k3
        cases ve
        · have hve := HVE.out.symm
          go_wp2_with fail
          go_ret
          exact ⟨ret_bool (by simp [rightG] <;> omega), HB4.out⟩
        have hve := HVE.out.symm
        by_cases e0 : ex = 0
        · subst e0
          go_wp2_with fail
          clear z0 z1 z2 z3 z4 z5 z6 z7 z8 z9
          refine (HF.out _ HB4.out).mono ?_
          rintro e w5 ⟨rfl, hb⟩
          have HA5 := Lib.hid (HA4.out.below hb)
          have HB5 := Lib.hid (below_then HB4.out (Nat.le_refl _) hb)
          clear hb
          obtain ⟨-, z0, z1, z2, z3, z4, z5, z6, z7, z8, z9⟩ := HA5.out
          simp only [] at z0 z1 z2 z3 z4 z5 z6 z7 z8 z9
          cases f
          · skip
            go_wp2_with fail
            go_ret
            exact ⟨ret_bool (by simp [rightG] <;> omega), HB5.out⟩
          cases q
          · have hle := HLE.out
            go_wp2_with fail
            go_ret
            exact ⟨ret_bool (by simp [rightG] <;> omega), HB5.out⟩
          · have hle := HLE.out
            go_wp2_with fail
            go_ret
            exact ⟨ret_bool (by simp [rightG] <;> omega), HB5.out⟩
        have e0m : (ex != 0) = true := by simp [e0]
        have e0d : decide (ex = 0) = false := by simp [e0]
        by_cases e1 : ex < 0
        · have e1d : decide (ex < 0) = true := decide_eq_true e1
          go_wp2_with fail
          go_ret
          exact ⟨ret_bool (by simp [rightG, e1] <;> omega), HB4.out⟩
        have e1d : decide (ex < 0) = false := decide_eq_false e1
        by_cases e2 : 1099511627776 < ex
        · have e2d : decide (1099511627776 < ex) = true := decide_eq_true e2
          go_wp2_with fail
          go_ret
          exact ⟨ret_bool (by simp [rightG, e1, e2] <;> omega), HB4.out⟩
        have e2d : decide (1099511627776 < ex) = false := decide_eq_false e2
        have e3 : 0 < ex := by omega
        go_wp2_with fail
        go_ret
        exact ⟨ret_bool (by simp [rightG, e1, e2, e3] <;> omega), HB4.out⟩
      by_cases k4 : 1 ≤ k
      · have k4d : decide (1 ≤ k) = true := decide_eq_true k4
        have k5 : decide (k ≤ 3) = false := decide_eq_false (by omega)
        have k6 : ¬ k ≤ 3 := by omega
        go_wp2_with fail
        go_ret
        exact ⟨ret_bool (by simp [rightG, k6] <;> omega), HB4.out⟩
      · have k4d : decide (1 ≤ k) = false := decide_eq_false k4
        go_wp2_with fail
        go_ret
        exact ⟨ret_bool (by simp [rightG, k4] <;> omega), HB4.out⟩
    · have n1 : decide ((n : Int) = 0) = false := by simp; omega
      have n2 : ((n : Int) == 0) = false := by simp; omega
      by_cases k4 : 1 ≤ k
      · have k4d : decide (1 ≤ k) = true := decide_eq_true k4
        by_cases k5 : k ≤ 3
        · have k5d : decide (k ≤ 3) = true := decide_eq_true k5
          go_wp2_with fail
          go_ret
          exact ⟨ret_bool (by simp [rightG, n0] <;> omega), HB4.out⟩
        · have k5d : decide (k ≤ 3) = false := decide_eq_false k5
          go_wp2_with fail
          go_ret
          exact ⟨ret_bool (by simp [rightG, n0] <;> omega), HB4.out⟩
      · have k4d : decide (1 ≤ k) = false := decide_eq_false k4
        go_wp2_with fail
        go_ret
        exact ⟨ret_bool (by simp [rightG, n0] <;> omega), HB4.out⟩
  have t1n : (tb == 1) = false := by simp [t1]
  have t1d : decide (tb = 1) = false := by simp [t1]
  by_cases t2 : tb = 2
  · subst t2
    by_cases k1 : k = 1
    · subst k1
      by_cases e0 : ex = 0
      · subst e0
        cases fe
        · have hfe := HFE.out.symm
          go_wp2_with fail
          go_ret
          exact ⟨ret_bool (by simp [rightG] <;> omega), HB4.out⟩
        · have hfe := HFE.out.symm
          go_wp2_with fail
          go_ret
          exact ⟨ret_bool (by simp [rightG] <;> omega), HB4.out⟩
      have e0m : (ex != 0) = true := by simp [e0]
      have e0d : decide (ex = 0) = false := by simp [e0]
      by_cases e1 : ex < 0
      · have e1d : decide (ex < 0) = true := decide_eq_true e1
        go_wp2_with fail
        go_ret
        exact ⟨ret_bool (by simp [rightG, e1] <;> omega), HB4.out⟩
      have e1d : decide (ex < 0) = false := decide_eq_false e1
      by_cases e2 : 1099511627776 < ex
      · have e2d : decide (1099511627776 < ex) = true := decide_eq_true e2
        go_wp2_with fail
        go_ret
        exact ⟨ret_bool (by simp [rightG, e1, e2] <;> omega), HB4.out⟩
      have e2d : decide (1099511627776 < ex) = false := decide_eq_false e2
      have e3 : 0 < ex := by omega
      go_wp2_with fail
      go_ret
      exact ⟨ret_bool (by simp [rightG, e1, e2, e3] <;> omega), HB4.out⟩
    by_cases k2 : k = 2
    · subst k2
      cases ve
      · have hve := HVE.out.symm
        go_wp2_with fail
        go_ret
        exact ⟨ret_bool (by simp [rightG] <;> omega), HB4.out⟩
      have hve := HVE.out.symm
      by_cases e0 : ex = 0
      · subst e0
        cases fe
        · have hfe := HFE.out.symm
          go_wp2_with fail
          go_ret
          exact ⟨ret_bool (by simp [rightG] <;> omega), HB4.out⟩
        · have hfe := HFE.out.symm
          go_wp2_with fail
          go_ret
          exact ⟨ret_bool (by simp [rightG] <;> omega), HB4.out⟩
      have e0m : (ex != 0) = true := by simp [e0]
      have e0d : decide (ex = 0) = false := by simp [e0]
      by_cases e1 : ex < 0
      · have e1d : decide (ex < 0) = true := decide_eq_true e1
        go_wp2_with fail
        go_ret
        exact ⟨ret_bool (by simp [rightG, e1] <;> omega), HB4.out⟩
      have e1d : decide (ex < 0) = false := decide_eq_false e1
      by_cases e2 : 1099511627776 < ex
      · have e2d : decide (1099511627776 < ex) = true := decide_eq_true e2
        go_wp2_with fail
        go_ret
        exact ⟨ret_bool (by simp [rightG, e1, e2] <;> omega), HB4.out⟩
      have e2d : decide (1099511627776 < ex) = false := decide_eq_false e2
      have e3 : 0 < ex := by omega
      go_wp2_with fail
      go_ret
      exact ⟨ret_bool (by simp [rightG, e1, e2, e3] <;> omega), HB4.out⟩
    by_cases k4 : 1 ≤ k
    · have k4d : decide (1 ≤ k) = true := decide_eq_true k4
      have k5 : decide (k ≤ 2) = false := decide_eq_false (by omega)
      go_wp2_with fail
      go_ret
      exact ⟨ret_bool (by simp [rightG, k1, k2] <;> omega), HB4.out⟩
    · have k4d : decide (1 ≤ k) = false := decide_eq_false k4
      go_wp2_with fail
      go_ret
      exact ⟨ret_bool (by simp [rightG, k1, k2] <;> omega), HB4.out⟩
  have t2n : (tb == 2) = false := by simp [t2]
  have t2d : decide (tb = 2) = false := by simp [t2]
  go_wp2_with fail
  go_ret
  exact ⟨ret_bool (by simp [rightG, t1, t2] <;> omega), HB4.out⟩
end Go.Proofs.YtmjelcjdfamikaaGreatDoor.Mut
