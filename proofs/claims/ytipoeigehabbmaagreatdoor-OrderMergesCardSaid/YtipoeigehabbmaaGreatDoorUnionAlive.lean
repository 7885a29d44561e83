/- The walk of the law's alive (layer 25). -/
import Derived.Test.YtipoeigehabbmaaGreatDoorCombine
set_option linter.unusedSimpArgs false
set_option linter.unusedVariables false
namespace Go.Proofs.YtipoeigehabbmaaGreatDoor.Mut
open Go.RowKit Go.Sort Go.Proofs.YtipoeigehabbmaaGreatDoor.Ord Go.Proofs.YtipoeigehabbmaaGreatDoor.RegInv
set_option linter.unusedSectionVars false
variable [Inhabited Lim]

/-- A literal row of mutations that supersede nothing. -/
theorem lit_rows25 (R : List Ro) (w : World) (t : TypeId) (hR : ∀ x ∈ R, x.2 = .slice none 0 0 ∧ x.1.over = []) (hn : R.length ≤ maxLen) : MRow (w.alloc (.cells ⟨R.flatMap enM⟩ t)) (.slice (some ⟨w.heap.size, 0, none⟩) R.length R.length) R := by
  refine ⟨⟨_, R.length, rfl, Nat.le_refl _, hn, Or.inr ⟨_, _, rfl, by simp, fun i x hi j hj => ?_⟩⟩, fun x hx => ?_⟩
  · rw [cells_at (heap_alloc_new w _), Nat.zero_add]
    exact flatMap_get enM_len _ i x hi j hj
  · obtain ⟨h1, h2⟩ := hR x hx
    exact ⟨by rw [h1, h2]; exact Lst.nil _, by rw [h1]; exact ZN.none _ _⟩
/-- A literal row of reports. -/
theorem lit_reports (R : List Rp) (w : World) (t : TypeId) (hR : ∀ x ∈ R, Lies w x.a x.b x.d x.c) (hn : R.length ≤ maxLen) : RRow (w.alloc (.cells ⟨R.flatMap enR⟩ t)) (.slice (some ⟨w.heap.size, 0, none⟩) R.length R.length) R := by
  refine ⟨⟨_, R.length, rfl, Nat.le_refl _, hn, Or.inr ⟨_, _, rfl, by simp, fun i x hi j hj => ?_⟩⟩, fun x hx => ?_⟩
  · rw [cells_at (heap_alloc_new w _), Nat.zero_add]
    exact flatMap_get enR_len _ i x hi j hj
  · exact (hR x hx).below ((Below.refl _ w).alloc (Nat.le_refl _) _)
def mU : Mu := ⟨1, 1, ⟨#[107]⟩, ⟨#[]⟩, ⟨#[118]⟩, 0, ⟨1, 0, 0⟩, []⟩
theorem rightU : rightF mU = true := by kernel_rfl
theorem leftU : leftOf [mU] = ⟨[mU], [], []⟩ := by kernel_rfl
theorem goodU : Good ⟨[mU], [], []⟩ 1 := by rw [← leftU]; exact leftOf_good _
theorem allU : allF ⟨[mU], [], []⟩ = [mU] := List.mergeSort_singleton _
theorem allU0 : allF ⟨[], [], []⟩ = [] := List.mergeSort_nil
theorem combU (a b d a' b' d' : Value) : combF [⟨a, b, d, ⟨[mU], [], []⟩, ⟨0, 0, 0⟩, false⟩, ⟨a', b', d', ⟨[], [], []⟩, ⟨2, 0, 0⟩, false⟩] ⟨5, 0, 0⟩ = (⟨[], [], []⟩, ⟨2, 0, 0⟩, true) := by kernel_rfl
theorem combU1 (a b d : Value) : combF [⟨a, b, d, ⟨[mU], [], []⟩, ⟨0, 0, 0⟩, false⟩] ⟨5, 0, 0⟩ = (⟨[mU], [], []⟩, ⟨0, 0, 0⟩, true) := by kernel_rfl

set_option maxHeartbeats 8000000 in
set_option maxRecDepth 100000 in
theorem alive25_any (w : World) (hT : Tabs w) : Calls Tryz.prog 21 #[] w (RetB true w) := by
  have HT := Lib.hid hT
  clear hT
  have hq2 := guardT_run .eql
  have hq1 := eqlT_run ⟨2, 0, 0⟩ ⟨2, 0, 0⟩ true (by kernel_rfl)
  simp only [] at hq1
  go_enter Tryz.func21, Tryz.ntmps21
  go_upto_region 2 with fail
  obtain ⟨W0, hW0⟩ : ∃ W0, W0 = w.alloc (.cells #[.int .i64 1, .int .i64 1, .string ⟨#[107]⟩, .string ⟨#[]⟩, .string ⟨#[118]⟩, .int .i64 0, .int .i64 1, .int .i64 0, .int .i64 0, .slice none 0 0] 35) := ⟨_, rfl⟩
  rw [← hW0]
  have hb0 : RowKit.Below w.heap.size w W0 := by rw [hW0]; exact (Below.refl _ _).alloc (Nat.le_refl _) _
  have hA0 : A0 W0 w.heap.size (mU, .slice none 0 0) := by rw [hW0]; exact A0.of (At.new w 35 (mU, .slice none 0 0))
  have HA0 := Lib.hid hA0
  have HB0 := Lib.hid hb0
  obtain ⟨n0, hn0⟩ : ∃ n0, n0 = w.heap.size := ⟨_, rfl⟩
  rw [← hn0] at HA0 ⊢
  clear hW0 hb0 hA0 hn0
  obtain ⟨hm, m0, m1, m2, m3, m4, m5, m6, m7, m8, m9⟩ := HA0.out
  have m0' : W0.cell? ⟨n0, 0, none⟩ = some (.int .i64 1) := m0
  have m1' : W0.cell? ⟨n0, 1, none⟩ = some (.int .i64 1) := m1
  have m2' : W0.cell? ⟨n0, 2, none⟩ = some (.string ⟨#[107]⟩) := m2
  have m3' : W0.cell? ⟨n0, 3, none⟩ = some (.string ⟨#[]⟩) := m3
  have m4' : W0.cell? ⟨n0, 4, none⟩ = some (.string ⟨#[118]⟩) := m4
  have m5' : W0.cell? ⟨n0, 5, none⟩ = some (.int .i64 0) := m5
  have m6' : W0.cell? ⟨n0, 6, none⟩ = some (.int .i64 1) := m6
  have m7' : W0.cell? ⟨n0, 7, none⟩ = some (.int .i64 0) := m7
  have m8' : W0.cell? ⟨n0, 8, none⟩ = some (.int .i64 0) := m8
  have m9' : W0.cell? ⟨n0, 9, none⟩ = some (.slice none 0 0) := m9
  clear m0 m1 m2 m3 m4 m5 m6 m7 m8 m9
  go_wp2_with fail
  have hof := fun (V : World) (hT : Tabs V) => c_of (hT.below ((Below.refl _ V).alloc (Nat.le_refl _) _)) (show Reads _ _ [mU] from ⟨_, rfl, lit_rows25 [((mU, .slice none 0 0) : Ro)] V 35 (fun x hx => by rw [List.mem_singleton.1 hx]; exact ⟨rfl, rfl⟩) (by decide)⟩) (by decide) (fun m hm => by rw [List.mem_singleton.1 hm]; exact small_right rightU)
  rw [leftU] at hof
  have HOF := Lib.hid hof
  clear hof
  refine (HOF.out W0 (HT.out.below HB0.out)).mono ?_
  rintro e w1 ⟨vv, rfl, hc, hb1⟩
  obtain ⟨o1, p1, q1, o2, p2, q2, o3, p3, q3, rfl, hl⟩ := hc.form
  have hb01 := below_then ((Below.refl _ W0).alloc (Nat.le_refl _) _) (Nat.le_refl _) hb1
  have HB1 := Lib.hid (below_then HB0.out (Nat.le_refl _) hb01)
  have HA1 := Lib.hid (HA0.out.below hb01)
  have HL1 := Lib.hid hl
  clear hc hb1 hl hb01 HB0 m0' m1' m2' m3' m4' m5' m6' m7' m8' m9' hm
  go_wp2_with fail
  have hR1 : RRow (w1.alloc (.cells ⟨[(⟨.slice o1 p1 q1, .slice o2 p2 q2, .slice o3 p3 q3, ⟨[mU], [], []⟩, ⟨0, 0, 0⟩, false⟩ : Rp), ⟨.slice none 0 0, .slice none 0 0, .slice none 0 0, ⟨[], [], []⟩, ⟨2, 0, 0⟩, false⟩].flatMap enR⟩ 49)) _ _ := lit_reports _ w1 49 (fun x hx => by
    simp only [List.mem_cons, List.not_mem_nil, or_false] at hx
    rcases hx with rfl | rfl
    · exact HL1.out
    · exact Lies.none _) (by simp [maxLen])
  have hcb := c_combine _ _ 1 ⟨5, 0, 0⟩ _ (HT.out.below (below_then HB1.out (Nat.le_refl _) ((Below.refl _ w1).alloc (Nat.le_refl _) _))) hR1 (fun x hx => by
    simp only [List.mem_cons, List.not_mem_nil, or_false] at hx
    rcases hx with rfl | rfl
    · exact goodU
    · exact empty_good.more (Nat.zero_le 1)) (by simp) (by decide)
  rw [combU] at hcb
  refine hcb.mono ?_
  rintro e w2 ⟨v2, rfl, hc2, hb⟩
  obtain ⟨o4, p4, q4, o5, p5, q5, o6, p6, q6, rfl, hl4⟩ := hc2.form
  have hb12 := below_then ((Below.refl _ w1).alloc (Nat.le_refl _) _) (Nat.le_refl _) hb
  have HB2 := Lib.hid (below_then HB1.out (Nat.le_refl _) hb12)
  have HA2 := Lib.hid (HA1.out.below hb12)
  have HL4 := Lib.hid hl4
  clear hcb hR1 hc2 hb hl4 hb12 HB1 HA1 HL1
  unfold vS
  go_upto_region 3 with fail
  obtain ⟨W3, hW3⟩ : ∃ W3, W3 = (w2.alloc (.cells #[.slice o4 p4 q4, .slice o5 p5 q5, .slice o6 p6 q6] 25)).alloc (.cells #[.int .i64 2, .int .i64 0, .int .i64 0] 32) := ⟨_, rfl⟩
  rw [← hW3]
  have hb3 : RowKit.Below w2.heap.size w2 W3 := by rw [hW3]; exact ((Below.refl _ _).alloc (Nat.le_refl _) _).alloc (by simp) _
  have x3 : C3 W3 w2.heap.size (.slice o4 p4 q4) (.slice o5 p5 q5) (.slice o6 p6 q6) := by
    rw [hW3]
    exact (C3.new w2 _ _ _).below ((Below.refl _ _).alloc (Nat.le_refl _) _)
  have s3 : S3 W3 (w2.heap.size + 1) ⟨2, 0, 0⟩ := by
    rw [hW3]
    have := S3.new (w2.alloc (.cells #[.slice o4 p4 q4, .slice o5 p5 q5, .slice o6 p6 q6] 25)) ⟨2, 0, 0⟩
    rwa [World.size_alloc] at this
  obtain ⟨n2, hn2⟩ : ∃ n2, n2 = w2.heap.size := ⟨_, rfl⟩
  rw [← hn2] at x3 s3 ⊢
  have HX3 := Lib.hid x3
  have HS3 := Lib.hid s3
  have HL3 := Lib.hid (HL4.out.below hb3)
  have HB3 := Lib.hid (below_then HB2.out (Nat.le_refl _) hb3)
  have HA3 := Lib.hid (HA2.out.below hb3)
  clear hW3 hb3 x3 s3 hn2 HB2 HA2 HL4
  obtain ⟨hm, m0, m1, m2, m3, m4, m5, m6, m7, m8, m9⟩ := HA3.out
  have m0' : W3.cell? ⟨n0, 0, none⟩ = some (.int .i64 1) := m0
  have m1' : W3.cell? ⟨n0, 1, none⟩ = some (.int .i64 1) := m1
  have m2' : W3.cell? ⟨n0, 2, none⟩ = some (.string ⟨#[107]⟩) := m2
  have m3' : W3.cell? ⟨n0, 3, none⟩ = some (.string ⟨#[]⟩) := m3
  have m4' : W3.cell? ⟨n0, 4, none⟩ = some (.string ⟨#[118]⟩) := m4
  have m5' : W3.cell? ⟨n0, 5, none⟩ = some (.int .i64 0) := m5
  have m6' : W3.cell? ⟨n0, 6, none⟩ = some (.int .i64 1) := m6
  have m7' : W3.cell? ⟨n0, 7, none⟩ = some (.int .i64 0) := m7
  have m8' : W3.cell? ⟨n0, 8, none⟩ = some (.int .i64 0) := m8
  have m9' : W3.cell? ⟨n0, 9, none⟩ = some (.slice none 0 0) := m9
  clear m0 m1 m2 m3 m4 m5 m6 m7 m8 m9
  go_wp2_with fail
  refine (HOF.out W3 (HT.out.below HB3.out)).mono ?_
  rintro e w4 ⟨vv, rfl, hc, hb1⟩
  obtain ⟨o7, p7, q7, o8, p8, q8, o9, p9, q9, rfl, hl⟩ := hc.form
  have hb01 := below_then ((Below.refl _ W3).alloc (Nat.le_refl _) _) (Nat.le_refl _) hb1
  have HB4 := Lib.hid (below_then HB3.out (Nat.le_refl _) hb01)
  have HX4 := Lib.hid (HX3.out.below hb01)
  have HS4 := Lib.hid (HS3.out.below hb01)
  have HL3b := Lib.hid (HL3.out.below hb01)
  have HL7 := Lib.hid hl
  clear hc hb1 hl hb01 HB3 HX3 HS3 HL3 HOF m0' m1' m2' m3' m4' m5' m6' m7' m8' m9' hm HA3
  go_wp2_with fail
  have hR1 : RRow (w4.alloc (.cells ⟨[(⟨.slice o7 p7 q7, .slice o8 p8 q8, .slice o9 p9 q9, ⟨[mU], [], []⟩, ⟨0, 0, 0⟩, false⟩ : Rp)].flatMap enR⟩ 49)) _ _ := lit_reports _ w4 49 (fun x hx => by
    rw [List.mem_singleton.1 hx]
    exact HL7.out) (by simp [maxLen])
  have hcb := c_combine _ _ 1 ⟨5, 0, 0⟩ _ (HT.out.below (below_then HB4.out (Nat.le_refl _) ((Below.refl _ w4).alloc (Nat.le_refl _) _))) hR1 (fun x hx => by
    rw [List.mem_singleton.1 hx]
    exact goodU) (by simp) (by decide)
  rw [combU1] at hcb
  refine hcb.mono ?_
  rintro e w5 ⟨v2, rfl, hc2, hb⟩
  obtain ⟨o10, p10, q10, o11, p11, q11, o12, p12, q12, rfl, hl4⟩ := hc2.form
  have hb12 := below_then ((Below.refl _ w4).alloc (Nat.le_refl _) _) (Nat.le_refl _) hb
  have HB5 := Lib.hid (below_then HB4.out (Nat.le_refl _) hb12)
  have HX5 := Lib.hid (HX4.out.below hb12)
  have HS5 := Lib.hid (HS4.out.below hb12)
  have HL5 := Lib.hid (HL3b.out.below hb12)
  have HL10 := Lib.hid hl4
  clear hcb hR1 hc2 hb hl4 hb12 HB4 HL7 HX4 HS4 HL3b
  unfold vS
  go_upto_region 4 with fail
  obtain ⟨W6, hW6⟩ : ∃ W6, W6 = (w5.alloc (.cells #[.slice o10 p10 q10, .slice o11 p11 q11, .slice o12 p12 q12] 25)).alloc (.cells #[.int .i64 0, .int .i64 0, .int .i64 0] 32) := ⟨_, rfl⟩
  rw [← hW6]
  have hb3 : RowKit.Below w5.heap.size w5 W6 := by rw [hW6]; exact ((Below.refl _ _).alloc (Nat.le_refl _) _).alloc (by simp) _
  have x3 : C3 W6 w5.heap.size (.slice o10 p10 q10) (.slice o11 p11 q11) (.slice o12 p12 q12) := by
    rw [hW6]
    exact (C3.new w5 _ _ _).below ((Below.refl _ _).alloc (Nat.le_refl _) _)
  obtain ⟨n5, hn5⟩ : ∃ n5, n5 = w5.heap.size := ⟨_, rfl⟩
  rw [← hn5] at x3 ⊢
  have HY6 := Lib.hid x3
  have HX6 := Lib.hid (HX5.out.below hb3)
  have HS6 := Lib.hid (HS5.out.below hb3)
  have HL6 := Lib.hid (HL5.out.below hb3)
  have HL10b := Lib.hid (HL10.out.below hb3)
  have HB6 := Lib.hid (below_then HB5.out (Nat.le_refl _) hb3)
  clear hW6 hb3 x3 hn5 HX5 HS5 HL5 HL10 HB5
  obtain ⟨-, s0, s1, s2, -⟩ := HS6.out
  simp only [] at s0 s1 s2
  obtain ⟨-, c0, c1, c2, -⟩ := HX6.out
  go_wp2_with fail
  refine (c_all (n := 1) HL6.out.is (empty_good.more (by decide)) (by decide)).mono ?_
  rintro e w7 ⟨g, cap, R, rfl, -, hm, hb⟩
  rw [allU0] at hm
  have e1 : R.length = 0 := by have := congrArg List.length hm; simpa using this
  rw [e1]
  have HY7 := Lib.hid (HY6.out.below hb)
  have HL11 := Lib.hid (HL10b.out.below hb)
  have HB7 := Lib.hid (below_then HB6.out (Nat.le_refl _) hb)
  clear hm hb e1 s0 s1 s2 c0 c1 c2 HB6 HY6 HL10b
  obtain ⟨-, c0, c1, c2, -⟩ := HY7.out
  go_wp2_with fail
  refine (c_all (n := 1) HL11.out.is goodU (by decide)).mono ?_
  rintro e w8 ⟨g2, cap2, R2, rfl, -, hm, hb⟩
  rw [allU] at hm
  have e1 : R2.length = 1 := by have := congrArg List.length hm; simpa using this
  rw [e1]
  have HB8 := Lib.hid (below_then HB7.out (Nat.le_refl _) hb)
  clear hm hb e1 c0 c1 c2 HB7 HY7 HL11
  go_wp2_with fail
  go_ret
  exact ⟨rfl, HB8.out⟩
end Go.Proofs.YtipoeigehabbmaaGreatDoor.Mut
