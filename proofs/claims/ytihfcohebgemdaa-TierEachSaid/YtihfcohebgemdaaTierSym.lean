/- Layer 18 (tier): the merge in place by Groups' comparison; a stable sort of fewer than forty. PRINTED by wip/gentiersort.py. -/
import Derived.Test.YtihfcohebgemdaaTierSort
import Derived.BigRegion
set_option linter.unusedSimpArgs false
set_option linter.unusedVariables false
namespace Go.Proofs.Ytihfcohebgemdaa.Tier
open Go.RowKit Go.Proofs.Ytihfcohebgemdaa.Ints Go.Proofs.Ytihfcohebgemdaa.Sort Go.Proofs.Ytihfcohebgemdaa.Ord

abbrev vC (Bs : Nat) : Value := .func (.func 27) #[] #[.pointer (some ⟨Bs, 0, none⟩)]

theorem St.at {W0 W : World} {g cap n N : Nat} {f : Nat → Int} {G : Nat → Value} (h : St W0 W g cap n f G N) (hn : n ≤ cap) {k : Nat} (hk : k < n) : ∃ x : Nat, x < N ∧ f k = (x : Int) ∧ W.cell? ⟨g, k, none⟩ = some (.int .i64 x) := by
  obtain ⟨h0, h1⟩ := h.val k hk
  have hc := h.row.cell hk (by omega)
  obtain ⟨x, hx⟩ := Int.eq_ofNat_of_zero_le h0
  rw [hx] at h1 hc
  exact ⟨x, by omega, hx, hc⟩

set_option maxRecDepth 100000 in
set_option maxHeartbeats 2000000 in
theorem swapRange_any (W0 : World) (g cap n a b k : Nat) (f : Nat → Int) (G : Nat → Value) (N : Nat) (Bs : Nat) (hn : n ≤ cap) (hn2 : n ≤ 100000) (ha : a + k ≤ b) (hb : b + k ≤ n) (w : World) (hS : St W0 w g cap n f G N) :
    Calls Try.prog 106 #[.slice (some ⟨g, 0, none⟩) n cap, .int .i64 a, .int .i64 b, .int .i64 k, .func (.func 27) #[] #[.pointer (some ⟨Bs, 0, none⟩)]] w fun e w' =>
      e = .returned (.tuple #[]) ∧ St W0 w' g cap n (srF f a b k) G N := by
  have HS := Lib.hid hS
  clear hS
  go_enter Try.func106, Try.ntmps106
  go_wp2_with fail
  go_loopw [10] (fun xv wr => ∃ x : Nat, x ≤ k ∧ xv = .int .i64 x ∧ Hid (St W0 wr g cap n (srF f a b x) G N)) (fun xv _ => k - (intOf xv).toNat)
  case atStart => exact ⟨0, by omega, rfl, Lib.hid (by rw [sr_zero]; exact HS.out)⟩
  case round =>
    obtain ⟨x, hx, rfl, hS⟩ := hrel
    by_cases hlt : x < k
    · have c1 := hS.out.row.cell (k := a + x) (by omega) (by omega)
      have c2 := hS.out.row.cell (k := b + x) (by omega) (by omega)
      have f1 := World.rowIs.frozen hS.out.row (a + x)
      have f2 := World.rowIs.frozen hS.out.row (b + x)
      have hgl : g < wr.heap.size := World.rowIs.lt hS.out.row
      have hst := sr_step f (a := a) (b := b) (n := x) (by omega)
      have HST := Lib.hid hst
      obtain ⟨X, hX⟩ : ∃ X, X = srF f a b x (a + x) := ⟨_, rfl⟩
      obtain ⟨Y, hY⟩ : ∃ Y, Y = srF f a b x (b + x) := ⟨_, rfl⟩
      rw [← hX] at c1
      rw [← hY] at c2
      have HX := Lib.hid hX
      have HY := Lib.hid hY
      clear hX hY hst
      go_wp2_with fail
      go_region
      all_goals
        go_wp2_with fail
        go_roundw
        case rel => exact ⟨x + 1, by omega, by go_num, Lib.hid (by rw [← HST.out]; exact hS.out.swap (by omega) (by omega) HX.out HY.out)⟩
        case measure => simp [intOf]; omega
    · obtain rfl : x = k := by omega
      go_wp2_with fail
      go_end0
      exact ⟨rfl, hS.out⟩

set_option maxRecDepth 100000 in
set_option maxHeartbeats 2000000 in
theorem rotate_any (W0 : World) (g cap n a m b : Nat) (f : Nat → Int) (G : Nat → Value) (N : Nat) (Bs : Nat) (hn : n ≤ cap) (hn2 : n ≤ 100000) (ha : a < m) (hm : m < b) (hb : b ≤ n) (w : World) (hS : St W0 w g cap n f G N) :
    Calls Try.prog 100 #[.slice (some ⟨g, 0, none⟩) n cap, .int .i64 a, .int .i64 m, .int .i64 b, .func (.func 27) #[] #[.pointer (some ⟨Bs, 0, none⟩)]] w fun e w' =>
      e = .returned (.tuple #[]) ∧ St W0 w' g cap n (rotF f a m b) G N := by
  have HS := Lib.hid hS
  have hrot := rotS_eq (m - a + (b - m)) f m (m - a) (b - m) (by omega) (by omega) (by omega) (Nat.le_refl _)
  rw [show m - (m - a) = a by omega, show m + (b - m) = b by omega] at hrot
  have HR := Lib.hid hrot
  clear hS hrot
  go_enter Try.func100, Try.ntmps100
  go_wp2_with fail
  go_loopw [10, 11] (fun iv jv wr => ∃ (i j : Nat) (f' : Nat → Int) (q : Nat), 0 < i ∧ 0 < j ∧ i ≤ m - a ∧ j ≤ b - m ∧ i + j ≤ q ∧ iv = .int .i64 i ∧ jv = .int .i64 j ∧ Hid (rotS q f' m i j = rotF f a m b) ∧ Hid (St W0 wr g cap n f' G N)) (fun iv jv _ => (intOf iv).toNat + (intOf jv).toNat)
  case atStart => exact ⟨m - a, b - m, f, m - a + (b - m), by omega, by omega, by omega, by omega, by omega, by congr 1; omega, by congr 1; omega, HR, HS⟩
  case round =>
    obtain ⟨i, j, f', q, hi, hj, him, hjm, hq, rfl, rfl, hrot, hS⟩ := hrel
    obtain ⟨q', rfl⟩ : ∃ q', q = q' + 1 := ⟨q - 1, by omega⟩
    have e0 : (m : Int) - i = ((m - i : Nat) : Int) := by omega
    by_cases hij : i = j
    · subst hij
      have hr := hrot.out
      unfold rotS at hr
      rw [if_pos rfl] at hr
      have HE := Lib.hid hr
      have hne : ((i : Int) != (i : Int)) = false := by simp
      clear hr
      go_wp2_with fail
      refine (swapRange_any W0 g cap n (m - i) m i f' G N Bs hn hn2 (by omega) (by omega) _ hS.out).mono ?_
      rintro e w1 ⟨rfl, hS1⟩
      rw [HE.out] at hS1
      have HS1 := Lib.hid hS1
      clear hS1
      go_wp2_with fail
      go_end0
      exact ⟨rfl, HS1.out⟩
    · have hne : ((i : Int) != (j : Int)) = true := by rw [bne_iff_ne]; omega
      by_cases hlt : j < i
      · have hr := hrot.out
        unfold rotS at hr
        rw [if_neg hij, if_pos hlt] at hr
        have HE := Lib.hid hr
        clear hr
        go_wp2_with fail
        refine (swapRange_any W0 g cap n (m - i) m j f' G N Bs hn hn2 (by omega) (by omega) _ hS.out).mono ?_
        rintro e w1 ⟨rfl, hS1⟩
        have HS1 := Lib.hid hS1
        clear hS1
        go_wp2_with fail
        go_roundw
        case rel => exact ⟨i - j, j, _, q', by omega, hj, by omega, hjm, by omega, by congr 1; omega, rfl, HE, HS1⟩
        case measure => simp [intOf]; omega
      · have hr := hrot.out
        unfold rotS at hr
        rw [if_neg hij, if_neg hlt] at hr
        have HE := Lib.hid hr
        have e1 : (m : Int) + j - i = ((m + j - i : Nat) : Int) := by omega
        clear hr
        go_wp2_with fail
        refine (swapRange_any W0 g cap n (m - i) (m + j - i) i f' G N Bs hn hn2 (by omega) (by omega) _ hS.out).mono ?_
        rintro e w1 ⟨rfl, hS1⟩
        have HS1 := Lib.hid hS1
        clear hS1
        go_wp2_with fail
        go_roundw
        case rel => exact ⟨i, j - i, _, q', hi, by omega, him, by omega, by omega, rfl, by congr 1; omega, HE, HS1⟩
        case measure => simp [intOf]; omega

set_option maxRecDepth 100000 in
set_option maxHeartbeats 4000000 in
/-- One element ahead of a sorted range. -/
theorem sym_one (β : Nat) (W0 : World) (g cap n a b q : Nat) (f : Nat → Int) (G : Nat → Value) (ao : Option Addr) (ac : Nat) (l : List Int) (Bs Bl : Nat) (hC : Cap β W0 ao ac l Bs Bl) (hg : Hid (g = β)) (hn : n ≤ cap) (hn2 : n ≤ 100000) (hb : b ≤ n) (hab : a + 1 < b) (hl : l.length ≤ 100000)
    (w : World) (hS : St W0 w g cap n f G l.length) :
    Calls Try.prog 83 #[.slice (some ⟨g, 0, none⟩) n cap, .int .i64 a, .int .i64 ((a + 1 : Nat) : Int), .int .i64 b, .func (.func 27) #[] #[.pointer (some ⟨Bs, 0, none⟩)]] w fun e w' =>
      e = .returned (.tuple #[]) ∧ St W0 w' g cap n (symM (ltK l) (q + 1) a (a + 1) b f) G l.length := by
  have HC := Lib.hid hC
  have HS := Lib.hid hS
  have hres : symM (ltK l) (q + 1) a (a + 1) b f = upF f a (bsr (fun h => ltK l (f h) (f a)) (b - (a + 1)) (a + 1) b - 1) := by unfold symM; rw [if_pos (by omega)]
  obtain ⟨R, hR⟩ : ∃ R, R = bsr (fun h => ltK l (f h) (f a)) (b - (a + 1)) (a + 1) b := ⟨_, rfl⟩
  have hRb := bsr_bd (fun h => ltK l (f h) (f a)) (b - (a + 1)) (a + 1) b (by omega)
  rw [← hR] at hres hRb
  have HRES := Lib.hid hres
  have HR := Lib.hid hR.symm
  obtain ⟨hR1, hR2⟩ := hRb
  clear hC hS hres hR
  have e1 : (((a + 1 : Nat) : Int) - a == 1) = true := by simp; omega
  have hhalf : ∀ x y : Nat, ((x + y) / 2 : Nat) = (((x : Int) + y) / 2).toNat := fun x y => by omega
  go_enter Try.func83, Try.ntmps83
  go_wp2_with fail
  go_loopw [10, 11] (fun iv jv wr => ∃ i j : Nat, a + 1 ≤ i ∧ i ≤ j ∧ j ≤ b ∧ iv = .int .i64 i ∧ jv = .int .i64 j ∧ Hid (bsr (fun h => ltK l (f h) (f a)) (j - i) i j = R) ∧ Hid (St W0 wr g cap n f G l.length)) (fun iv jv _ => (intOf jv).toNat - (intOf iv).toNat)
  case atStart => exact ⟨a + 1, b, by omega, by omega, by omega, by go_num, rfl, HR, HS⟩
  case round =>
    obtain ⟨i, j, hi, hij, hj, rfl, rfl, hb', hS'⟩ := hrel
    have HCW := Lib.hid (HC.out.below (hS'.out.bl hg))
    by_cases hlt : i < j
    · obtain ⟨h, hh⟩ : ∃ h, h = (i + j) / 2 := ⟨_, rfl⟩
      have hh1 : i ≤ h := by omega
      have hh2 : h < j := by omega
      have eh : ((i : Int) + j) / 2 = (h : Int) := by omega
      have hyes := bsr_yes (p := fun h => ltK l (f h) (f a)) hlt
      have hno := bsr_no (p := fun h => ltK l (f h) (f a)) hlt
      rw [hb'.out, ← hh] at hyes hno
      obtain ⟨x, hx, hfx, cx⟩ := hS'.out.at hn (k := h) (by omega)
      obtain ⟨y, hy, hfy, cy⟩ := hS'.out.at hn (k := a) (by omega)
      have hgl : g < wr.heap.size := World.rowIs.lt hS'.out.row
      have hcond : ltK l (f h) (f a) = decide (cmpI (sz l x) (sz l y) < 0) := by rw [hfx, hfy]; rfl
      cases hlt2 : decide (cmpI (sz l x) (sz l y) < 0)
      · have HN := Lib.hid (hno (by rw [hcond, hlt2]))
        clear hyes hno hh hfx hfy hcond
        go_wp2_with fail
        refine wp_region_calm (by kernel_rfl) (by kernel_rfl) ?_
        repeat (go_big_quiet_step ((go_at_call 27; exact calm (cmp_any β ao ac l Bs Bl x y _ (Cap.below HCW.out (grown_at β (BW.below _))) hx hy hl))))
        refine wpQuiet_nil ?_
        rintro _ ⟨z, rfl⟩
        go_wp2_with fail
        go_roundw
        case rel => exact ⟨i, h, hi, hh1, by omega, rfl, rfl, Lib.hid HN.out.symm, Lib.hid (hS'.out.below z.below)⟩
        case measure => simp [intOf]; omega
      · have HY := Lib.hid (hyes (by rw [hcond, hlt2]))
        clear hyes hno hh hfx hfy hcond
        go_wp2_with fail
        refine wp_region_calm (by kernel_rfl) (by kernel_rfl) ?_
        repeat (go_big_quiet_step ((go_at_call 27; exact calm (cmp_any β ao ac l Bs Bl x y _ (Cap.below HCW.out (grown_at β (BW.below _))) hx hy hl))))
        refine wpQuiet_nil ?_
        rintro _ ⟨z, rfl⟩
        go_wp2_with fail
        go_roundw
        case rel => exact ⟨h + 1, j, by omega, by omega, hj, by go_num, rfl, Lib.hid HY.out.symm, Lib.hid (hS'.out.below z.below)⟩
        case measure => simp [intOf]; omega
    · obtain rfl : i = j := by omega
      have hRi := hb'.out
      rw [bsr_end] at hRi
      subst hRi
      clear hlt
      go_wp2_with fail
      go_loopw [13] (fun kv wr => ∃ k : Nat, a ≤ k ∧ k ≤ i - 1 ∧ kv = .int .i64 k ∧ Hid (St W0 wr g cap n (upF f a k) G l.length)) (fun kv _ => i - (intOf kv).toNat)
      case atStart => exact ⟨a, by omega, by omega, rfl, Lib.hid (by rw [up_zero]; exact hS'.out)⟩
      case round =>
        obtain ⟨k, hk1, hk2, rfl, hS3⟩ := hrel
        by_cases hlt : k < i - 1
        · have hlt' : (k : Int) < (i : Int) - 1 := by omega
          have c1 := hS3.out.row.cell (k := k) (by omega) (by omega)
          have c2 := hS3.out.row.cell (k := k + 1) (by omega) (by omega)
          have f1 := World.rowIs.frozen hS3.out.row k
          have f2 := World.rowIs.frozen hS3.out.row (k + 1)
          have hgl : g < wr.heap.size := World.rowIs.lt hS3.out.row
          have HST := Lib.hid (up_step f hk1)
          obtain ⟨X, hX⟩ : ∃ X, X = upF f a k k := ⟨_, rfl⟩
          obtain ⟨Y, hY⟩ : ∃ Y, Y = upF f a k (k + 1) := ⟨_, rfl⟩
          rw [← hX] at c1
          rw [← hY] at c2
          have HX := Lib.hid hX
          have HY := Lib.hid hY
          clear hX hY
          go_wp2_with fail
          go_region
          all_goals
            go_wp2_with fail
            go_roundw
            case rel => exact ⟨k + 1, by omega, by omega, by go_num, Lib.hid (by rw [← HST.out]; exact hS3.out.swap (by omega) (by omega) HX.out HY.out)⟩
            case measure => simp [intOf]; omega
        · obtain rfl : k = i - 1 := by omega
          have hge : ¬ (((i - 1 : Nat) : Int) < (i : Int) - 1) := by omega
          go_wp2_with fail
          refine bodyPost_ret (results_none rfl _ _ _) rfl ?_
          exact ⟨rfl, by rw [HRES.out]; exact hS3.out⟩

set_option maxRecDepth 100000 in
set_option maxHeartbeats 4000000 in
/-- One element behind a sorted range. -/
theorem sym_last (β : Nat) (W0 : World) (g cap n a m q : Nat) (f : Nat → Int) (G : Nat → Value) (ao : Option Addr) (ac : Nat) (l : List Int) (Bs Bl : Nat) (hC : Cap β W0 ao ac l Bs Bl) (hg : Hid (g = β)) (hn : n ≤ cap) (hn2 : n ≤ 100000) (hb : m + 1 ≤ n) (hab : a + 1 < m) (hl : l.length ≤ 100000)
    (w : World) (hS : St W0 w g cap n f G l.length) :
    Calls Try.prog 83 #[.slice (some ⟨g, 0, none⟩) n cap, .int .i64 a, .int .i64 m, .int .i64 ((m + 1 : Nat) : Int), .func (.func 27) #[] #[.pointer (some ⟨Bs, 0, none⟩)]] w fun e w' =>
      e = .returned (.tuple #[]) ∧ St W0 w' g cap n (symM (ltK l) (q + 1) a m (m + 1) f) G l.length := by
  have HC := Lib.hid hC
  have HS := Lib.hid hS
  have hres : symM (ltK l) (q + 1) a m (m + 1) f = downF f (bsr (fun h => !ltK l (f m) (f h)) (m - a) a m) m := by unfold symM; rw [if_neg (by omega), if_pos (by omega)]
  obtain ⟨R, hR⟩ : ∃ R, R = bsr (fun h => !ltK l (f m) (f h)) (m - a) a m := ⟨_, rfl⟩
  have hRb := bsr_bd (fun h => !ltK l (f m) (f h)) (m - a) a m (by omega)
  rw [← hR] at hres hRb
  have HRES := Lib.hid hres
  have HR := Lib.hid hR.symm
  obtain ⟨hR1, hR2⟩ := hRb
  clear hC hS hres hR
  have e0 : ((m : Int) - a == 1) = false := by simp; omega
  have e1 : (((m + 1 : Nat) : Int) - m == 1) = true := by simp; omega
  go_enter Try.func83, Try.ntmps83
  go_wp2_with fail
  go_loopw [14, 15] (fun iv jv wr => ∃ i j : Nat, a ≤ i ∧ i ≤ j ∧ j ≤ m ∧ iv = .int .i64 i ∧ jv = .int .i64 j ∧ Hid (bsr (fun h => !ltK l (f m) (f h)) (j - i) i j = R) ∧ Hid (St W0 wr g cap n f G l.length)) (fun iv jv _ => (intOf jv).toNat - (intOf iv).toNat)
  case atStart => exact ⟨a, m, by omega, by omega, by omega, rfl, rfl, HR, HS⟩
  case round =>
    obtain ⟨i, j, hi, hij, hj, rfl, rfl, hb', hS'⟩ := hrel
    have HCW := Lib.hid (HC.out.below (hS'.out.bl hg))
    by_cases hlt : i < j
    · obtain ⟨h, hh⟩ : ∃ h, h = (i + j) / 2 := ⟨_, rfl⟩
      have hh1 : i ≤ h := by omega
      have hh2 : h < j := by omega
      have eh : ((i : Int) + j) / 2 = (h : Int) := by omega
      have hyes := bsr_yes (p := fun h => !ltK l (f m) (f h)) hlt
      have hno := bsr_no (p := fun h => !ltK l (f m) (f h)) hlt
      rw [hb'.out, ← hh] at hyes hno
      obtain ⟨x, hx, hfx, cx⟩ := hS'.out.at hn (k := m) (by omega)
      obtain ⟨y, hy, hfy, cy⟩ := hS'.out.at hn (k := h) (by omega)
      have hgl : g < wr.heap.size := World.rowIs.lt hS'.out.row
      have hcond : ltK l (f m) (f h) = decide (cmpI (sz l x) (sz l y) < 0) := by rw [hfx, hfy]; rfl
      cases hlt2 : decide (cmpI (sz l x) (sz l y) < 0)
      · have HN := Lib.hid (hyes (by rw [hcond, hlt2]; rfl))
        clear hyes hno hh hfx hfy hcond
        go_wp2_with fail
        refine wp_region_calm (by kernel_rfl) (by kernel_rfl) ?_
        repeat (go_big_quiet_step ((go_at_call 27; exact calm (cmp_any β ao ac l Bs Bl x y _ (Cap.below HCW.out (grown_at β (BW.below _))) hx hy hl))))
        refine wpQuiet_nil ?_
        rintro _ ⟨z, rfl⟩
        go_wp2_with fail
        go_roundw
        case rel => exact ⟨h + 1, j, by omega, by omega, hj, by go_num, rfl, Lib.hid HN.out.symm, Lib.hid (hS'.out.below z.below)⟩
        case measure => simp [intOf]; omega
      · have HY := Lib.hid (hno (by rw [hcond, hlt2]; rfl))
        clear hyes hno hh hfx hfy hcond
        go_wp2_with fail
        refine wp_region_calm (by kernel_rfl) (by kernel_rfl) ?_
        repeat (go_big_quiet_step ((go_at_call 27; exact calm (cmp_any β ao ac l Bs Bl x y _ (Cap.below HCW.out (grown_at β (BW.below _))) hx hy hl))))
        refine wpQuiet_nil ?_
        rintro _ ⟨z, rfl⟩
        go_wp2_with fail
        go_roundw
        case rel => exact ⟨i, h, hi, hh1, by omega, rfl, rfl, Lib.hid HY.out.symm, Lib.hid (hS'.out.below z.below)⟩
        case measure => simp [intOf]; omega
    · obtain rfl : i = j := by omega
      have hRi := hb'.out
      rw [bsr_end] at hRi
      subst hRi
      clear hlt
      go_wp2_with fail
      go_loopw [17] (fun kv wr => ∃ k : Nat, i ≤ k ∧ k ≤ m ∧ kv = .int .i64 k ∧ Hid (St W0 wr g cap n (downF f k m) G l.length)) (fun kv _ => (intOf kv).toNat)
      case atStart => exact ⟨m, by omega, by omega, rfl, Lib.hid (by rw [down_zero]; exact hS'.out)⟩
      case round =>
        obtain ⟨k, hk1, hk2, rfl, hS3⟩ := hrel
        by_cases hlt : i < k
        · obtain ⟨k, rfl⟩ : ∃ k', k = k' + 1 := ⟨k - 1, by omega⟩
          have c1 := hS3.out.row.cell (k := k + 1) (by omega) (by omega)
          have c2 := hS3.out.row.cell (k := k) (by omega) (by omega)
          have f1 := World.rowIs.frozen hS3.out.row (k + 1)
          have f2 := World.rowIs.frozen hS3.out.row k
          have hgl : g < wr.heap.size := World.rowIs.lt hS3.out.row
          have HST := Lib.hid (down_step f hk2)
          have hlt' : (i : Int) < (k : Int) + 1 := by omega
          obtain ⟨X, hX⟩ : ∃ X, X = downF f (k + 1) m (k + 1) := ⟨_, rfl⟩
          obtain ⟨Y, hY⟩ : ∃ Y, Y = downF f (k + 1) m k := ⟨_, rfl⟩
          rw [← hX] at c1
          rw [← hY] at c2
          have HX := Lib.hid hX
          have HY := Lib.hid hY
          clear hX hY
          go_wp2_with fail
          go_region
          all_goals
            go_wp2_with fail
            go_roundw
            case rel => exact ⟨k, by omega, by omega, rfl, Lib.hid (by rw [← HST.out]; exact hS3.out.swap (by omega) (by omega) HX.out HY.out)⟩
            case measure => simp [intOf]
        · obtain rfl : k = i := by omega
          go_wp2_with fail
          refine bodyPost_ret (results_none rfl _ _ _) rfl ?_
          exact ⟨rfl, by rw [HRES.out]; exact hS3.out⟩

/-- The merge's last three steps. -/
def fin1 (f : Nat → Int) (st m en : Nat) : Nat → Int := if st < m ∧ m < en then rotF f st m en else f
def fin2 (lt : Int → Int → Bool) (q a st mid : Nat) (f1 : Nat → Int) : Nat → Int := if a < st ∧ st < mid then symM lt q a st mid f1 else f1
theorem symM_step (lt : Int → Int → Bool) (q a m b : Nat) (f : Nat → Int) (h1 : m - a ≠ 1) (h2 : b - m ≠ 1) :
    symM lt (q + 1) a m b f = fin2 lt q ((a + b) / 2) ((a + b) / 2 + m - startF lt f a m b) b (fin2 lt q a (startF lt f a m b) ((a + b) / 2) (fin1 f (startF lt f a m b) m ((a + b) / 2 + m - startF lt f a m b))) := by
  conv => lhs; unfold symM
  rw [if_neg h1, if_neg h2]
  rfl

set_option maxRecDepth 100000 in
set_option maxHeartbeats 8000000 in
theorem sym_any (β : Nat) (W0 : World) (g cap n : Nat) (G : Nat → Value) (ao : Option Addr) (ac : Nat) (l : List Int) (Bs Bl : Nat) (hC : Cap β W0 ao ac l Bs Bl) (hg : Hid (g = β)) (hn : n ≤ cap) (hn2 : n ≤ 100000) (hl : l.length ≤ 100000) (q : Nat) :
    ∀ (a m b : Nat) (f : Nat → Int) (w : World), a < m → m < b → b ≤ n → b - a ≤ q → St W0 w g cap n f G l.length →
    Calls Try.prog 83 #[.slice (some ⟨g, 0, none⟩) n cap, .int .i64 a, .int .i64 m, .int .i64 b, .func (.func 27) #[] #[.pointer (some ⟨Bs, 0, none⟩)]] w fun e w' =>
      e = .returned (.tuple #[]) ∧ St W0 w' g cap n (symM (ltK l) q a m b f) G l.length := by
  induction q with
  | zero => intro a m b f w h1 h2 h3 h4; omega
  | succ q ih =>
    intro a m b f w h1 h2 h3 h4 hS
    by_cases c1 : m - a = 1
    · obtain rfl : m = a + 1 := by omega
      exact sym_one β W0 g cap n a b q f G ao ac l Bs Bl hC hg hn hn2 h3 h2 hl w hS
    by_cases c2 : b - m = 1
    · obtain rfl : b = m + 1 := by omega
      exact sym_last β W0 g cap n a m q f G ao ac l Bs Bl hC hg hn hn2 h3 (by omega) hl w hS
    have HC := Lib.hid hC
    have HS := Lib.hid hS
    have IH := Lib.hid ih
    have hres := symM_step (ltK l) q a m b f c1 c2
    obtain ⟨mid, hmid⟩ : ∃ x, x = (a + b) / 2 := ⟨_, rfl⟩
    have hm1 : 2 * mid ≤ a + b := by omega
    have hm2 : a + b ≤ 2 * mid + 1 := by omega
    have hs0 : start0 a m b = if mid < m then mid + m - b else a := by unfold start0; rw [← hmid]
    have hr0 : r0 a m b = if mid < m then mid else m := by unfold r0; rw [← hmid]
    have hst : startF (ltK l) f a m b = bsr (fun c => !ltK l (f (mid + m - 1 - c)) (f c)) (r0 a m b - start0 a m b) (start0 a m b) (r0 a m b) := by unfold startF; rw [← hmid]
    rw [← hmid] at hres
    obtain ⟨s0, hs00⟩ : ∃ x, x = start0 a m b := ⟨_, rfl⟩
    obtain ⟨rr, hr00⟩ : ∃ x, x = r0 a m b := ⟨_, rfl⟩
    rw [← hs00] at hs0 hst
    rw [← hr00] at hr0 hst
    have k1 : a ≤ s0 := by rw [hs0]; split <;> omega
    have k2 : s0 ≤ rr := by rw [hs0, hr0]; split <;> omega
    have k3 : rr ≤ m := by rw [hr0]; split <;> omega
    have k4 : rr ≤ mid := by rw [hr0]; split <;> omega
    have k5 : mid + m - s0 ≤ b := by rw [hs0]; split <;> omega
    have hsr : (mid < m → s0 = mid + m - b ∧ rr = mid) ∧ (¬ mid < m → s0 = a ∧ rr = m) := ⟨fun h => ⟨by rw [hs0, if_pos h], by rw [hr0, if_pos h]⟩, fun h => ⟨by rw [hs0, if_neg h], by rw [hr0, if_neg h]⟩⟩
    have hbd := bsr_bd (fun c => !ltK l (f (mid + m - 1 - c)) (f c)) (rr - s0) s0 rr k2
    rw [← hst] at hbd
    obtain ⟨R, hR⟩ : ∃ x, x = startF (ltK l) f a m b := ⟨_, rfl⟩
    rw [← hR] at hst hbd hres
    obtain ⟨hR1, hR2⟩ := hbd
    have HR := Lib.hid hst.symm
    have HSR := Lib.hid hsr
    have HRES := Lib.hid hres
    have e0 : ((m : Int) - a == 1) = false := by simp; omega
    have e1 : ((b : Int) - m == 1) = false := by simp; omega
    have em : ((a : Int) + b) / 2 = (mid : Int) := by omega
    clear hC hS ih hres hst hs0 hr0 hs00 hr00 hR hsr hmid c1 c2
    go_enter Try.func83, Try.ntmps83
    go_upto_if 140 with fail
    go_cut [20, 21] (fun sv rv wx => sv = .int .i64 s0 ∧ rv = .int .i64 rr ∧ wx = w)
    case first =>
      by_cases hc : mid < m
      · obtain ⟨q1, q2⟩ := HSR.out.1 hc
        have Q := Lib.hid (And.intro q1 q2)
        clear q1 q2
        go_wp2_with fail
        go_meet
        exact ⟨by rw [Q.out.1]; congr 1; omega, by rw [Q.out.2], rfl⟩
      · obtain ⟨q1, q2⟩ := HSR.out.2 hc
        have Q := Lib.hid (And.intro q1 q2)
        have hc' : m ≤ mid := by omega
        clear q1 q2
        go_wp2_with fail
        go_meet
        exact ⟨by rw [Q.out.1], by rw [Q.out.2], rfl⟩
    case rest =>
      obtain ⟨rfl, rfl, rfl⟩ := hcut
      obtain ⟨N, hN⟩ : ∃ N, N = mid + m - 1 := ⟨_, rfl⟩
      have eN : (mid : Int) + m - 1 = (N : Int) := by omega
      have HR2 := Lib.hid (show bsr (fun c => !ltK l (f (N - c)) (f c)) (rr - s0) s0 rr = R by rw [hN]; exact HR.out)
      have hN1 : N + 1 = mid + m := by omega
      have HN1 := Lib.hid hN1
      have hNb : N - s0 < b := by omega
      have hNm : m ≤ N - rr + 1 := by omega
      have hNr : rr ≤ N := by omega
      clear hN hN1
      go_wp2_with fail
      go_loopw [20, 21] (fun iv jv wr => ∃ i j : Nat, s0 ≤ i ∧ i ≤ j ∧ j ≤ rr ∧ iv = .int .i64 i ∧ jv = .int .i64 j ∧ Hid (bsr (fun c => !ltK l (f (N - c)) (f c)) (j - i) i j = R) ∧ Hid (St W0 wr g cap n f G l.length)) (fun iv jv _ => (intOf jv).toNat - (intOf iv).toNat)
      case atStart => exact ⟨s0, rr, by omega, by omega, by omega, rfl, rfl, HR2, HS⟩
      case round =>
        obtain ⟨i, j, hi, hij, hj, rfl, rfl, hb', hS'⟩ := hrel
        have HCW := Lib.hid (HC.out.below (hS'.out.bl hg))
        by_cases hlt : i < j
        · obtain ⟨h, hh⟩ : ∃ h, h = (i + j) / 2 := ⟨_, rfl⟩
          have hh1 : i ≤ h := by omega
          have hh2 : h < j := by omega
          have eh : ((i : Int) + j) / 2 = (h : Int) := by omega
          have eNh : (N : Int) - h = ((N - h : Nat) : Int) := by omega
          have hyes := bsr_yes (p := fun c => !ltK l (f (N - c)) (f c)) hlt
          have hno := bsr_no (p := fun c => !ltK l (f (N - c)) (f c)) hlt
          rw [hb'.out, ← hh] at hyes hno
          obtain ⟨x, hx, hfx, cx⟩ := hS'.out.at hn (k := N - h) (by omega)
          obtain ⟨y, hy, hfy, cy⟩ := hS'.out.at hn (k := h) (by omega)
          have hgl : g < wr.heap.size := World.rowIs.lt hS'.out.row
          have hcond : ltK l (f (N - h)) (f h) = decide (cmpI (sz l x) (sz l y) < 0) := by rw [hfx, hfy]; rfl
          have hNn : ((N - h : Nat) : Int) < n := by omega
          cases hlt2 : decide (cmpI (sz l x) (sz l y) < 0)
          · as_aux_lemma =>
            have HN := Lib.hid (hyes (by rw [hcond, hlt2]; rfl))
            clear hyes hno hh hfx hfy hcond
            go_wp2_with fail
            refine wp_region_calm (by kernel_rfl) (by kernel_rfl) ?_
            repeat (go_big_quiet_step ((go_at_call 27; exact calm (cmp_any β ao ac l Bs Bl x y _ (Cap.below HCW.out (grown_at β (BW.below _))) hx hy hl))))
            refine wpQuiet_nil ?_
            rintro _ ⟨z, rfl⟩
            go_wp2_with fail
            go_roundw
            case rel => exact ⟨h + 1, j, by omega, by omega, hj, by go_num, rfl, Lib.hid HN.out.symm, Lib.hid (hS'.out.below z.below)⟩
            case measure => simp [intOf]; omega
          · as_aux_lemma =>
            have HY := Lib.hid (hno (by rw [hcond, hlt2]; rfl))
            clear hyes hno hh hfx hfy hcond
            go_wp2_with fail
            refine wp_region_calm (by kernel_rfl) (by kernel_rfl) ?_
            repeat (go_big_quiet_step ((go_at_call 27; exact calm (cmp_any β ao ac l Bs Bl x y _ (Cap.below HCW.out (grown_at β (BW.below _))) hx hy hl))))
            refine wpQuiet_nil ?_
            rintro _ ⟨z, rfl⟩
            go_wp2_with fail
            go_roundw
            case rel => exact ⟨i, h, hi, hh1, by omega, rfl, rfl, Lib.hid HY.out.symm, Lib.hid (hS'.out.below z.below)⟩
            case measure => simp [intOf]; omega
        · obtain rfl : i = j := by omega
          have hRi := hb'.out
          rw [bsr_end] at hRi
          subst hRi
          obtain ⟨en, hen⟩ : ∃ x, x = mid + m - i := ⟨_, rfl⟩
          rw [← hen] at HRES
          have een : (mid : Int) + m - i = (en : Int) := by omega
          have een1 : m ≤ en := by omega
          have een2 : en ≤ b := by have := HN1.out; omega
          have hlt' : ¬ (i : Int) < i := by omega
          clear hlt hen
          obtain ⟨C1, hC1⟩ : ∃ C, C = decide (i < m ∧ m < en) := ⟨_, rfl⟩
          have HC1 := Lib.hid hC1
          clear hC1
          go_upto_region 39 with fail
          go_cut [185] (fun c wx => c = .bool C1 ∧ Hid (St W0 wx g cap n f G l.length))
          case first =>
            as_aux_lemma =>
            by_cases q1 : i < m
            · by_cases q2 : m < en
              · have HD := Lib.hid (HC1.out.trans (decide_eq_true ⟨q1, q2⟩))
                go_wp2_with fail
                go_meet
                exact ⟨by rw [HD.out], hS'⟩
              · have HD := Lib.hid (HC1.out.trans (decide_eq_false (fun h => q2 h.2)))
                have q2' : ¬ ((m : Nat) : Int) < ((en : Nat) : Int) := by omega
                go_wp2_with fail
                go_meet
                exact ⟨by rw [HD.out], hS'⟩
            · have HD := Lib.hid (HC1.out.trans (decide_eq_false (fun h => q1 h.1)))
              have q1' : ¬ ((i : Nat) : Int) < ((m : Nat) : Int) := by omega
              go_wp2_with fail
              go_meet
              exact ⟨by rw [HD.out], hS'⟩
          case rest =>
            obtain ⟨rfl, hSc39⟩ := hcut
            go_upto_if 185 with fail
            go_cut [191] (fun _ wx => Hid (St W0 wx g cap n (fin1 f i m en) G l.length))
            case first =>
              as_aux_lemma =>
              cases C1 with
              | true =>
                have q1 : i < m ∧ m < en := of_decide_eq_true HC1.out.symm
                have hnew : (fin1 f i m en) = rotF f i m en := by unfold fin1; rw [if_pos q1]
                have HNEW := Lib.hid hnew
                have Q1 := Lib.hid q1
                clear hnew q1
                go_wp2_with fail
                refine (rotate_any W0 g cap n i m en f G l.length Bs hn hn2 Q1.out.1 Q1.out.2 (by omega) _ hSc39.out).mono ?_
                rintro e w1 ⟨rfl, hS1⟩
                have HS1 := Lib.hid hS1
                clear hS1
                go_wp2_with fail
                go_meet
                rw [HNEW.out]; exact HS1
              | false =>
                have q1 : ¬ (i < m ∧ m < en) := of_decide_eq_false HC1.out.symm
                have hnew : (fin1 f i m en) = f := by unfold fin1; rw [if_neg q1]
                have HNEW := Lib.hid hnew
                clear hnew q1
                go_wp2_with fail
                go_meet
                rw [HNEW.out]; exact hSc39
            case rest =>
              have hT1 := hcut
              obtain ⟨C2, hC2⟩ : ∃ C, C = decide (a < i ∧ i < mid) := ⟨_, rfl⟩
              have HC2 := Lib.hid hC2
              clear hC2
              go_upto_region 41 with fail
              go_cut [199] (fun c wx => c = .bool C2 ∧ Hid (St W0 wx g cap n (fin1 f i m en) G l.length))
              case first =>
                as_aux_lemma =>
                by_cases q1 : a < i
                · by_cases q2 : i < mid
                  · have HD := Lib.hid (HC2.out.trans (decide_eq_true ⟨q1, q2⟩))
                    go_wp2_with fail
                    go_meet
                    exact ⟨by rw [HD.out], hT1⟩
                  · have HD := Lib.hid (HC2.out.trans (decide_eq_false (fun h => q2 h.2)))
                    have q2' : ¬ ((i : Nat) : Int) < ((mid : Nat) : Int) := by omega
                    go_wp2_with fail
                    go_meet
                    exact ⟨by rw [HD.out], hT1⟩
                · have HD := Lib.hid (HC2.out.trans (decide_eq_false (fun h => q1 h.1)))
                  have q1' : ¬ ((a : Nat) : Int) < ((i : Nat) : Int) := by omega
                  go_wp2_with fail
                  go_meet
                  exact ⟨by rw [HD.out], hT1⟩
              case rest =>
                obtain ⟨rfl, hSc41⟩ := hcut
                go_upto_if 199 with fail
                go_cut [205] (fun _ wx => Hid (St W0 wx g cap n (fin2 (ltK l) q a i mid (fin1 f i m en)) G l.length))
                case first =>
                  as_aux_lemma =>
                  cases C2 with
                  | true =>
                    have q1 : a < i ∧ i < mid := of_decide_eq_true HC2.out.symm
                    have hnew : (fin2 (ltK l) q a i mid (fin1 f i m en)) = symM (ltK l) q a i mid (fin1 f i m en) := by unfold fin2; rw [if_pos q1]
                    have HNEW := Lib.hid hnew
                    have Q1 := Lib.hid q1
                    clear hnew q1
                    go_wp2_with fail
                    refine (IH.out a i mid (fin1 f i m en) _ Q1.out.1 Q1.out.2 (by omega) (by omega) hSc41.out).mono ?_
                    rintro e w1 ⟨rfl, hS1⟩
                    have HS1 := Lib.hid hS1
                    clear hS1
                    go_wp2_with fail
                    go_meet
                    rw [HNEW.out]; exact HS1
                  | false =>
                    have q1 : ¬ (a < i ∧ i < mid) := of_decide_eq_false HC2.out.symm
                    have hnew : (fin2 (ltK l) q a i mid (fin1 f i m en)) = (fin1 f i m en) := by unfold fin2; rw [if_neg q1]
                    have HNEW := Lib.hid hnew
                    clear hnew q1
                    go_wp2_with fail
                    go_meet
                    rw [HNEW.out]; exact hSc41
                case rest =>
                  have hT2 := hcut
                  obtain ⟨C3, hC3⟩ : ∃ C, C = decide (mid < en ∧ en < b) := ⟨_, rfl⟩
                  have HC3 := Lib.hid hC3
                  clear hC3
                  go_upto_region 43 with fail
                  go_cut [213] (fun c wx => c = .bool C3 ∧ Hid (St W0 wx g cap n (fin2 (ltK l) q a i mid (fin1 f i m en)) G l.length))
                  case first =>
                    as_aux_lemma =>
                    by_cases q1 : mid < en
                    · by_cases q2 : en < b
                      · have HD := Lib.hid (HC3.out.trans (decide_eq_true ⟨q1, q2⟩))
                        go_wp2_with fail
                        go_meet
                        exact ⟨by rw [HD.out], hT2⟩
                      · have HD := Lib.hid (HC3.out.trans (decide_eq_false (fun h => q2 h.2)))
                        have q2' : ¬ ((en : Nat) : Int) < ((b : Nat) : Int) := by omega
                        go_wp2_with fail
                        go_meet
                        exact ⟨by rw [HD.out], hT2⟩
                    · have HD := Lib.hid (HC3.out.trans (decide_eq_false (fun h => q1 h.1)))
                      have q1' : ¬ ((mid : Nat) : Int) < ((en : Nat) : Int) := by omega
                      go_wp2_with fail
                      go_meet
                      exact ⟨by rw [HD.out], hT2⟩
                  case rest =>
                    obtain ⟨rfl, hSc43⟩ := hcut
                    cases C3 with
                    | true =>
                      have q1 : mid < en ∧ en < b := of_decide_eq_true HC3.out.symm
                      have hnew : (fin2 (ltK l) q mid en b (fin2 (ltK l) q a i mid (fin1 f i m en))) = symM (ltK l) q mid en b (fin2 (ltK l) q a i mid (fin1 f i m en)) := by unfold fin2; rw [if_pos q1]
                      have HNEW := Lib.hid hnew
                      have Q1 := Lib.hid q1
                      clear hnew q1
                      go_wp2_with fail
                      refine (IH.out mid en b (fin2 (ltK l) q a i mid (fin1 f i m en)) _ Q1.out.1 Q1.out.2 (by omega) (by omega) hSc43.out).mono ?_
                      rintro e w1 ⟨rfl, hS1⟩
                      have HS1 := Lib.hid hS1
                      clear hS1
                      go_wp2_with fail
                      go_end0
                      exact ⟨rfl, by rw [HRES.out, HNEW.out]; exact HS1.out⟩
                    | false =>
                      have q1 : ¬ (mid < en ∧ en < b) := of_decide_eq_false HC3.out.symm
                      have hnew : (fin2 (ltK l) q mid en b (fin2 (ltK l) q a i mid (fin1 f i m en))) = (fin2 (ltK l) q a i mid (fin1 f i m en)) := by unfold fin2; rw [if_neg q1]
                      have HNEW := Lib.hid hnew
                      clear hnew q1
                      go_wp2_with fail
                      go_end0
                      exact ⟨rfl, by rw [HRES.out, HNEW.out]; exact hSc43.out⟩

theorem two_blocks {l : List Int} {n : Nat} {f : Nat → Int} (h1 : 20 ≤ n) (hf : ∀ p q, p < q → q < n → f p < f q) :
    On (R l) (isort (ltK l) 20 (n - 21) 21 (isort (ltK l) 0 19 1 f)) 0 20 ∧ On (R l) (isort (ltK l) 20 (n - 21) 21 (isort (ltK l) 0 19 1 f)) 20 n ∧
    Same f (isort (ltK l) 20 (n - 21) 21 (isort (ltK l) 0 19 1 f)) 0 n ∧
    ∀ p k, p < 20 → 20 ≤ k → k < n → isort (ltK l) 20 (n - 21) 21 (isort (ltK l) 0 19 1 f) p < isort (ltK l) 20 (n - 21) 21 (isort (ltK l) 0 19 1 f) k := by
  obtain ⟨a1, a2⟩ := isort_sorts (lt := ltK l) (r := R l) (a := 0) (b := 20) 19 1 f (by omega) (by omega) (fun _ _ _ => R_trans) (ltK_spec l) (fun p q _ _ hq => by omega) (fun p q _ hpq _ hq => hf p q hpq (by omega))
  generalize isort (ltK l) 0 19 1 f = f1 at *
  have hB : On (R l) (isort (ltK l) 20 (n - 21) 21 f1) 20 n ∧ Same f1 (isort (ltK l) 20 (n - 21) 21 f1) 20 n := by
    by_cases h20 : n ≤ 20
    · obtain rfl : n = 20 := by omega
      exact ⟨fun p q hp hpq hq => by omega, Same.refl _ _ _⟩
    · exact isort_sorts (lt := ltK l) (r := R l) (a := 20) (b := n) (n - 21) 21 f1 (by omega) (by omega) (fun _ _ _ => R_trans) (ltK_spec l) (fun p q _ _ hq => by omega) (fun p q hp hpq _ hq => by rw [← a2.2 p (by omega), ← a2.2 q (by omega)]; exact hf p q hpq hq)
  obtain ⟨b1, b2⟩ := hB
  generalize isort (ltK l) 20 (n - 21) 21 f1 = f2 at *
  refine ⟨fun p q hp hpq hq => by rw [← b2.2 p (by omega), ← b2.2 q (by omega)]; exact a1 p q hp hpq hq, b1, (a2.wide (Nat.le_refl _) h1).trans (b2.wide (by omega) (Nat.le_refl _)), fun p k hp hk hkn => ?_⟩
  rw [← b2.2 p (by omega)]
  obtain ⟨p', p1, p2, pe⟩ := (a2.1 (f1 p)).2 ⟨p, by omega, hp, rfl⟩
  obtain ⟨k', q1, q2, ke⟩ := (b2.1 (f2 k)).2 ⟨k, hk, hkn, rfl⟩
  rw [← pe, ← ke, ← a2.2 k' (by omega)]
  exact hf p' k' (by omega) q2

set_option maxRecDepth 100000 in
set_option maxHeartbeats 2000000 in
theorem stable_mid (β : Nat) (W0 : World) (g cap n : Nat) (f : Nat → Int) (G : Nat → Value) (ao : Option Addr) (ac : Nat) (l : List Int) (Bs Bl : Nat) (hC : Cap β W0 ao ac l Bs Bl) (hg : Hid (g = β)) (hn : n ≤ cap) (hn1 : 20 ≤ n) (hn2 : n < 40) (hl : l.length ≤ 100000)
    (hf : ∀ p q, p < q → q < n → f p < f q) (w : World) (hS : St W0 w g cap n f G l.length) :
    Calls Try.prog 56 #[.slice (some ⟨g, 0, none⟩) n cap, .int .i64 n, .func (.func 27) #[] #[.pointer (some ⟨Bs, 0, none⟩)]] w fun e w' =>
      e = .returned (.tuple #[]) ∧ Done l W0 g cap n f G w' := by
  have HC := Lib.hid hC
  have HS := Lib.hid hS
  have HT := Lib.hid (two_blocks (l := l) hn1 hf)
  clear hC hS hf
  go_enter Try.func56, Try.ntmps56
  go_wp2_with fail
  go_loopw [7, 8] (fun av bv wr => (av = .int .i64 0 ∧ bv = .int .i64 20 ∧ Hid (St W0 wr g cap n f G l.length)) ∨ (av = .int .i64 20 ∧ bv = .int .i64 40 ∧ Hid (St W0 wr g cap n (isort (ltK l) 0 19 1 f) G l.length))) (fun _ bv _ => 100 - (intOf bv).toNat)
  case atStart => exact Or.inl ⟨rfl, rfl, HS⟩
  case round =>
    rcases hrel with ⟨rfl, rfl, hS1⟩ | ⟨rfl, rfl, hS1⟩
    · have hlt : (20 : Int) ≤ n := by omega
      go_wp2_with fail
      refine (isort_any β W0 g cap n 0 20 f G ao ac l Bs Bl HC.out hg hn (by omega) (by omega) (by omega) hl _ hS1.out).mono ?_
      rintro e w1 ⟨rfl, hS2⟩
      have HS2 := Lib.hid hS2
      clear hS2
      go_wp2_with fail
      go_roundw
      case rel => exact Or.inr ⟨rfl, rfl, HS2⟩
      case measure => simp [intOf]
    · have hlt : ¬ ((40 : Int) ≤ n) := by omega
      go_wp2_with fail
      refine (isort_any β W0 g cap n 20 n (isort (ltK l) 0 19 1 f) G ao ac l Bs Bl HC.out hg hn (by omega) (Nat.le_refl _) (by omega) hl _ hS1.out).mono ?_
      rintro e w1 ⟨rfl, hS2⟩
      have HS2 := Lib.hid hS2
      clear hS2
      go_wp2_with fail
      by_cases h20 : n = 20
      · subst h20
        have hend : Done l W0 g cap 20 f G w1 := ⟨_, HS2.out, HT.out.1, HT.out.2.2.1⟩
        have HE := Lib.hid hend
        clear hend
        go_loopw [6] (fun bv wr => bv = .int .i64 20 ∧ wr = w1) (fun _ _ => 0)
        case atStart => exact ⟨rfl, rfl⟩
        case round =>
          obtain ⟨rfl, rfl⟩ := hrel
          go_wp2_with fail
          go_end0
          exact ⟨rfl, HE.out⟩
      · have hlt2 : (20 : Int) < n := by omega
        go_loopw [6] (fun bv wr => (bv = .int .i64 20 ∧ wr = w1) ∨ (bv = .int .i64 40 ∧ Hid (Done l W0 g cap n f G wr))) (fun bv _ => 100 - (intOf bv).toNat)
        case atStart => exact Or.inl ⟨rfl, rfl⟩
        case round =>
          rcases hrel with ⟨rfl, rfl⟩ | ⟨rfl, hD⟩
          · go_wp2_with fail
            go_loopw [7, 8] (fun av bv wx => av = .int .i64 0 ∧ bv = .int .i64 40 ∧ wx = wr) (fun _ _ _ => 0)
            case atStart => exact ⟨rfl, rfl, rfl⟩
            case round =>
              obtain ⟨rfl, rfl, rfl⟩ := hrel
              go_wp2_with fail
              refine (sym_any β W0 g cap n G ao ac l Bs Bl HC.out hg hn (by omega) hl n 0 20 n _ _ (by omega) (by omega) (Nat.le_refl _) (by omega) HS2.out).mono ?_
              rintro e w2 ⟨rfl, hS3⟩
              obtain ⟨m1, m2⟩ := symM_sorts (lt := ltK l) (r := R l) (fun _ _ _ => R_trans) (fun _ _ => R_asymm) (ltK_spec l) n 0 20 n _ (by omega) (by omega) (by omega) HT.out.1 HT.out.2.1 (fun p k _ hp hk hkn => HT.out.2.2.2 p k hp hk hkn)
              have hend : Done l W0 g cap n f G w2 := ⟨_, hS3, m1, HT.out.2.2.1.trans m2⟩
              have HE := Lib.hid hend
              clear hend hS3 m1 m2
              go_wp2_with fail
              go_roundw
              case rel => exact Or.inr ⟨rfl, HE⟩
              case measure => simp [intOf]
          · have hlt3 : ¬ ((40 : Int) < n) := by omega
            go_wp2_with fail
            go_end0
            exact ⟨rfl, hD.out⟩

end Go.Proofs.Ytihfcohebgemdaa.Tier
