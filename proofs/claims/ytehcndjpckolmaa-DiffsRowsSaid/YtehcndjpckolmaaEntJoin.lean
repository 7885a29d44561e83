/- The law DiffsRows (layer 36): its own walk. -/
import Derived.Test.YtehcndjpckolmaaEntTop
namespace Go.Proofs.Ytehcndjpckolmaa.Diffs
open Go.RowKit Go.Proofs.Ytehcndjpckolmaa.Cmp

set_option maxRecDepth 100000 in
theorem long_any (ao bo : Option Addr) (ac bc n m : Nat) (w : World) (h : 60 < n ∨ 60 < m) :
    Calls Try.prog 3 #[.slice ao n ac, .slice bo m bc] w fun e w' => e = .returned (.bool true) ∧ Below w.heap.size w w' := by
  by_cases h1 : 60 < n
  · have g1 : decide ((60 : Int) < n) = true := decide_eq_true (by omega)
    go_enter Try.func3, Try.ntmps3
    go_wp2
    go_ret
    exact ⟨rfl, Below.refl _ _⟩
  · have g1 : decide ((60 : Int) < n) = false := decide_eq_false (by omega)
    have g2 : decide ((60 : Int) < m) = true := decide_eq_true (by omega)
    go_enter Try.func3, Try.ntmps3
    go_wp2
    go_ret
    exact ⟨rfl, Below.refl _ _⟩

set_option maxRecDepth 100000 in
set_option maxHeartbeats 2000000 in
theorem short_any (ao bo : Option Addr) (ac bc : Nat) (a b : List Ent) (w : World) (ha : ERow w (.slice ao a.length ac) a) (hb : ERow w (.slice bo b.length bc) b) (h1 : a.length ≤ 60) (h2 : b.length ≤ 60) :
    Calls Try.prog 3 #[.slice ao a.length ac, .slice bo b.length bc] w fun e w' => e = .returned (.bool true) ∧ Below w.heap.size w w' := by
  have HA := Lib.hid ha
  have HB := Lib.hid hb
  clear ha hb
  have g1 : decide ((60 : Int) < a.length) = false := decide_eq_false (by omega)
  have g2 : decide ((60 : Int) < b.length) = false := decide_eq_false (by omega)
  go_enter Try.func3, Try.ntmps3
  go_wp2_with fail
  go_loopw [5] (fun iv wr => ∃ (k : Nat), k ≤ a.length ∧ iv = .int .i64 k ∧ Below w.heap.size w wr) (fun iv _ => a.length - (intOf iv).toNat)
  case atStart => exact ⟨0, by omega, rfl, Below.refl _ _⟩
  case round =>
    obtain ⟨k, hk, rfl, hbl⟩ := hrel
    have hsz := hbl.size
    by_cases hlt : k < a.length ∧ k < b.length
    · obtain ⟨ab, aoff, rfl, hab, a0, a1, a2, a3⟩ := ERow.cells (Lst.below HA.out hbl) hlt.1
      obtain ⟨bb, boff, rfl, hbb, b0, b1, b2, b3⟩ := ERow.cells (Lst.below HB.out hbl) hlt.2
      have hl1 := hlt.1
      have hl2 := hlt.2
      generalize a[k] = x at *
      generalize b[k] = y at *
      clear hlt
      go_wp2_with fail
      refine wp_region_calm (by kernel_rfl) (by kernel_rfl) ?_
      repeat (go_big_quiet_step (first | (go_at_call 13; exact calm (compare_any _ _ _)) | (go_at_call 14; exact calm (lawcompare_any _ _ _))))
      refine wpQuiet_nil ?_
      rintro _ ⟨z, rfl⟩
      go_wp2_with fail
      go_roundw
      case rel => exact ⟨k + 1, by omega, by go_num, below_then hbl (Nat.le_refl _) z.below⟩
      case measure => simp [intOf]; omega
    · have HAr := Lib.hid (Lst.below HA.out hbl)
      have HBr := Lib.hid (Lst.below HB.out hbl)
      have hla := rowF_len a
      have hlb := rowF_len b
      by_cases h3 : k < a.length
      all_goals
        go_wp2_with fail
        refine (row_any ao ac a _ HAr.out (by omega)).mono ?_
        rintro e w1 ⟨v1, rfl, r1, b1⟩
        obtain ⟨o1, c1, rfl, -, -⟩ := Lst.form r1
        have R1 := Lib.hid r1
        have A1 := Lib.hid (Lst.below HAr.out b1)
        have B1 := Lib.hid (Lst.below HBr.out b1)
        have K1 := Lib.hid (below_then hbl (Nat.le_refl _) b1)
        clear r1 b1
        go_wp2_with fail
        refine (row_any bo bc b _ B1.out (by omega)).mono ?_
        rintro e w2 ⟨v2, rfl, r2, b2⟩
        obtain ⟨o2, c2, rfl, -, -⟩ := Lst.form r2
        have R2 := Lib.hid (And.intro (Lst.below R1.out b2) (And.intro r2 (Lst.below A1.out b2)))
        have K2 := Lib.hid (below_then K1.out (Nat.le_refl _) b2)
        clear r2 b2
        go_wp2_with fail
        refine (diff_any o1 o2 c1 c2 (rowF a) (rowF b) _ R2.out.1 R2.out.2.1 (by omega) (by omega)).mono ?_
        rintro e w3 ⟨z1, z2, z3, rfl, s1, s2, s3, b3⟩
        rw [walk_rows] at s1 s2 s3
        obtain ⟨p1, d1, rfl, -, -⟩ := Lst.form s1
        obtain ⟨p2, d2, rfl, -, -⟩ := Lst.form s2
        obtain ⟨p3, d3, rfl, -, -⟩ := Lst.form s3
        have S := Lib.hid (And.intro s1 (And.intro s2 s3))
        have R3 := Lib.hid (And.intro (Lst.below R2.out.1 b3) (And.intro (Lst.below R2.out.2.1 b3) (Lst.below R2.out.2.2 b3)))
        have K3 := Lib.hid (below_then K2.out (Nat.le_refl _) b3)
        clear s1 s2 s3 b3
        go_wp2_with fail
        have S3 := S
        refine (sorted_any ao ac a _ R3.out.2.2 (by omega)).mono ?_
        rintro e w4 ⟨rfl, b4⟩
        have S4 := Lib.hid (And.intro (Lst.below S3.out.1 b4) (And.intro (Lst.below S3.out.2.1 b4) (Lst.below S3.out.2.2 b4)))
        have R4 := Lib.hid (And.intro (Lst.below R3.out.1 b4) (And.intro (Lst.below R3.out.2.1 b4) (Lst.below R3.out.2.2 b4)))
        have K4 := Lib.hid (below_then K3.out (Nat.le_refl _) b4)
        clear b4
        go_wp2_with fail
        refine (row_any ao ac a _ R4.out.2.2 (by omega)).mono ?_
        rintro e w5 ⟨v5, rfl, r5, b5⟩
        obtain ⟨o5, c5, rfl, -, -⟩ := Lst.form r5
        have Q5 := Lib.hid r5
        have S5 := Lib.hid (And.intro (Lst.below S4.out.1 b5) (And.intro (Lst.below S4.out.2.1 b5) (Lst.below S4.out.2.2 b5)))
        have R5 := Lib.hid (And.intro (Lst.below R4.out.1 b5) (And.intro (Lst.below R4.out.2.1 b5) (Lst.below R4.out.2.2 b5)))
        have K5 := Lib.hid (below_then K4.out (Nat.le_refl _) b5)
        clear b5 r5
        go_wp2_with fail
        refine (equal_lit (sortF a) o5 ao c5 ac (rowF a) a _ (row_sort a) Q5.out R5.out.2.2 (by omega) (by omega)).mono ?_
        rintro e w6 ⟨rfl, b6⟩
        have S6 := Lib.hid (And.intro (Lst.below S5.out.1 b6) (And.intro (Lst.below S5.out.2.1 b6) (Lst.below S5.out.2.2 b6)))
        have R6 := Lib.hid (And.intro (Lst.below R5.out.1 b6) (And.intro (Lst.below R5.out.2.1 b6) (Lst.below R5.out.2.2 b6)))
        have K6 := Lib.hid (below_then K5.out (Nat.le_refl _) b6)
        clear b6
        go_wp2_with fail
        refine (less_any o1 o2 c1 c2 (rowF a) (rowF b) false _ R6.out.1 R6.out.2.1 (by omega) (by omega)).mono ?_
        rintro e w7 ⟨v7, rfl, r7, b7⟩
        obtain ⟨o7, c7, rfl, -, -⟩ := Lst.form r7
        have Q7 := Lib.hid r7
        have S7 := Lib.hid (And.intro (Lst.below S6.out.1 b7) (And.intro (Lst.below S6.out.2.1 b7) (Lst.below S6.out.2.2 b7)))
        have R7 := Lib.hid (And.intro (Lst.below R6.out.1 b7) (And.intro (Lst.below R6.out.2.1 b7) (Lst.below R6.out.2.2 b7)))
        have K7 := Lib.hid (below_then K6.out (Nat.le_refl _) b7)
        clear b7 r7
        go_wp2_with fail
        have hll7 : (lessF (rowF a) (rowF b) false).length ≤ 100000 := Nat.le_trans (List.length_filter_le _ _) (by omega)
        refine (equal_lit true p1 o7 d1 c7 (lessF (rowF a) (rowF b) false) (lessF (rowF a) (rowF b) false) _ ((eqR_iff _ _).2 rfl) S7.out.1 Q7.out hll7 hll7).mono ?_
        rintro e w8 ⟨rfl, b8⟩
        have S8 := Lib.hid (And.intro (Lst.below S7.out.1 b8) (And.intro (Lst.below S7.out.2.1 b8) (Lst.below S7.out.2.2 b8)))
        have R8 := Lib.hid (And.intro (Lst.below R7.out.1 b8) (And.intro (Lst.below R7.out.2.1 b8) (Lst.below R7.out.2.2 b8)))
        have K8 := Lib.hid (below_then K7.out (Nat.le_refl _) b8)
        clear b8
        go_wp2_with fail
        refine (less_any o2 o1 c2 c1 (rowF b) (rowF a) false _ R8.out.2.1 R8.out.1 (by omega) (by omega)).mono ?_
        rintro e w9 ⟨v9, rfl, r9, b9⟩
        obtain ⟨o9, c9, rfl, -, -⟩ := Lst.form r9
        have Q9 := Lib.hid r9
        have S9 := Lib.hid (And.intro (Lst.below S8.out.1 b9) (And.intro (Lst.below S8.out.2.1 b9) (Lst.below S8.out.2.2 b9)))
        have R9 := Lib.hid (And.intro (Lst.below R8.out.1 b9) (And.intro (Lst.below R8.out.2.1 b9) (Lst.below R8.out.2.2 b9)))
        have K9 := Lib.hid (below_then K8.out (Nat.le_refl _) b9)
        clear b9 r9
        go_wp2_with fail
        have hll9 : (lessF (rowF b) (rowF a) false).length ≤ 100000 := Nat.le_trans (List.length_filter_le _ _) (by omega)
        refine (equal_lit true p2 o9 d2 c9 (lessF (rowF b) (rowF a) false) (lessF (rowF b) (rowF a) false) _ ((eqR_iff _ _).2 rfl) S9.out.2.1 Q9.out hll9 hll9).mono ?_
        rintro e w10 ⟨rfl, b10⟩
        have S10 := Lib.hid (And.intro (Lst.below S9.out.1 b10) (And.intro (Lst.below S9.out.2.1 b10) (Lst.below S9.out.2.2 b10)))
        have R10 := Lib.hid (And.intro (Lst.below R9.out.1 b10) (And.intro (Lst.below R9.out.2.1 b10) (Lst.below R9.out.2.2 b10)))
        have K10 := Lib.hid (below_then K9.out (Nat.le_refl _) b10)
        clear b10
        go_wp2_with fail
        refine (less_any o1 o2 c1 c2 (rowF a) (rowF b) true _ R10.out.1 R10.out.2.1 (by omega) (by omega)).mono ?_
        rintro e w11 ⟨v11, rfl, r11, b11⟩
        obtain ⟨o11, c11, rfl, -, -⟩ := Lst.form r11
        have Q11 := Lib.hid r11
        have S11 := Lib.hid (And.intro (Lst.below S10.out.1 b11) (And.intro (Lst.below S10.out.2.1 b11) (Lst.below S10.out.2.2 b11)))
        have R11 := Lib.hid (And.intro (Lst.below R10.out.1 b11) (And.intro (Lst.below R10.out.2.1 b11) (Lst.below R10.out.2.2 b11)))
        have K11 := Lib.hid (below_then K10.out (Nat.le_refl _) b11)
        clear b11 r11
        go_wp2_with fail
        have hll11 : (lessF (rowF a) (rowF b) true).length ≤ 100000 := Nat.le_trans (List.length_filter_le _ _) (by omega)
        refine (equal_lit true p3 o11 d3 c11 (lessF (rowF a) (rowF b) true) (lessF (rowF a) (rowF b) true) _ ((eqR_iff _ _).2 rfl) S11.out.2.2 Q11.out hll11 hll11).mono ?_
        rintro e w12 ⟨rfl, b12⟩
        have S12 := Lib.hid (And.intro (Lst.below S11.out.1 b12) (And.intro (Lst.below S11.out.2.1 b12) (Lst.below S11.out.2.2 b12)))
        have R12 := Lib.hid (And.intro (Lst.below R11.out.1 b12) (And.intro (Lst.below R11.out.2.1 b12) (Lst.below R11.out.2.2 b12)))
        have K12 := Lib.hid (below_then K11.out (Nat.le_refl _) b12)
        clear b12
        go_wp2_with fail
        refine (alive_any _).mono ?_
        rintro e w13 ⟨rfl, b13⟩
        have KK := Lib.hid (below_then K12.out (Nat.le_refl _) b13)
        clear b13
        go_wp2_with fail
        go_ret
        exact ⟨rfl, KK.out⟩
end Go.Proofs.Ytehcndjpckolmaa.Diffs
