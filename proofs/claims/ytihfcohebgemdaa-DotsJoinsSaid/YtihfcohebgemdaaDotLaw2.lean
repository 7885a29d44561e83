/- Layer 6 (dots): the walk of the law DotsJoins. PRINTED by wip/gendotlaw.py. -/
import Derived.Test.YtihfcohebgemdaaDotLaw
set_option linter.unusedSimpArgs false
set_option linter.unusedVariables false
namespace Go.Proofs.Ytihfcohebgemdaa.Dots
open Go.RowKit Go.Maps Go.Sort Go.Proofs.Ytihfcohebgemdaa.Vec Go.Proofs.Ytihfcohebgemdaa.Spare Go.Proofs.Ytihfcohebgemdaa.RegInv

theorem joins_out (ao bo : Option Addr) (n m ac bc : Nat) (w : World) (h : 60 < n ∨ 60 < m) :
    Calls Try.prog 5 #[.slice ao n ac, .slice bo m bc] w fun e w' => e = .returned (.bool true) ∧ Below w.heap.size w w' := by
  by_cases c1 : 60 < n
  · have g1 : decide ((n : Int) > 60) = true := decide_eq_true (by omega)
    go_enter Try.func5, Try.ntmps5
    go_wp2
    go_ret
    exact ⟨rfl, Below.refl _ _⟩
  · have g1 : decide ((n : Int) > 60) = false := decide_eq_false (by omega)
    have g2 : decide ((m : Int) > 60) = true := decide_eq_true (by omega)
    go_enter Try.func5, Try.ntmps5
    go_wp2
    go_ret
    exact ⟨rfl, Below.refl _ _⟩

set_option maxRecDepth 100000 in
set_option maxHeartbeats 8000000 in
theorem joins_in (ao bo : Option Addr) (ac bc : Nat) (a b : List P) (w : World) (ha : DRow w (.slice ao a.length ac) a) (hb : DRow w (.slice bo b.length bc) b) (sa : Sm a) (sb : Sm b) (h1 : a.length ≤ 60) (h2 : b.length ≤ 60) :
    Calls Try.prog 5 #[.slice ao a.length ac, .slice bo b.length bc] w fun e w' => e = .returned (.bool true) ∧ Below w.heap.size w w' := by
  have HA := Lib.hid (And.intro ha hb)
  have HS := Lib.hid (And.intro sa sb)
  have HNA := Lib.hid (nice_setOf sa (show a.length ≤ 250 by omega))
  have HNB := Lib.hid (nice_setOf sb (show b.length ≤ 250 by omega))
  have g1 : decide ((a.length : Int) > 60) = false := decide_eq_false (by omega)
  have g2 : decide ((b.length : Int) > 60) = false := decide_eq_false (by omega)
  have hla := setOf_len a
  have hlb := setOf_len b
  obtain ⟨i0, hi, hz0, hz1, hz2⟩ := info_parts_R
  have HI := Lib.hid (And.intro hi (And.intro hz0 (And.intro hz1 hz2)))
  clear ha hb sa sb hi hz0 hz1 hz2
  obtain ⟨A, hAe⟩ : ∃ L, L = setOf a := ⟨_, rfl⟩
  obtain ⟨B, hBe⟩ : ∃ L, L = setOf b := ⟨_, rfl⟩
  rw [← hAe] at HNA hla
  rw [← hBe] at HNB hlb
  have HAB := Lib.hid (And.intro hAe hBe)
  have HNJ := Lib.hid (nice_join HNA.out HNB.out (by omega))
  clear hAe hBe
  go_enter Try.func5, Try.ntmps5
  go_wp2_with fail
  refine (rows_any ao ac a w HA.out.1 (by omega)).mono ?_
  rintro e w1 ⟨v1, rfl, hr1, hb1⟩
  obtain ⟨r1, k1, rfl, -, -⟩ := Lst.form hr1
  have HR1 := Lib.hid hr1
  have HB1 := Lib.hid hb1
  clear hr1 hb1
  go_wp2_with fail
  refine (refsetof_any r1 k1 a w1 HR1.out (by omega)).mono ?_
  rintro e w2 ⟨v2, rfl, hr2, hb2⟩
  rw [← HAB.out.1] at hr2
  obtain ⟨mo, mc, rfl, -, -⟩ := Lst.form hr2
  have HM2 := Lib.hid hr2
  have HB2 := Lib.hid (below_then HB1.out (Nat.le_refl _) hb2)
  clear hr2 hb2
  go_wp2_with fail
  refine (rows_any bo bc b w2 (Lst.below HA.out.2 HB2.out) (by omega)).mono ?_
  rintro e w3 ⟨v3, rfl, hr3, hb3⟩
  obtain ⟨r3, k3, rfl, -, -⟩ := Lst.form hr3
  have HR3 := Lib.hid hr3
  have HM3 := Lib.hid (Lst.below HM2.out hb3)
  have HB3 := Lib.hid (below_then HB2.out (Nat.le_refl _) hb3)
  clear hr3 hb3
  go_wp2_with fail
  refine (refsetof_any r3 k3 b w3 HR3.out (by omega)).mono ?_
  rintro e w4 ⟨v4, rfl, hr4, hb4⟩
  rw [← HAB.out.2] at hr4
  obtain ⟨no, nc, rfl, -, -⟩ := Lst.form hr4
  have HNN4 := Lib.hid hr4
  have HM4 := Lib.hid (Lst.below HM3.out hb4)
  have HB4 := Lib.hid (below_then HB3.out (Nat.le_refl _) hb4)
  clear hr4 hb4
  go_wp2_with fail
  refine (of_any ao ac a w4 (Lst.below HA.out.1 HB4.out) HS.out.1 (by omega)).mono ?_
  rintro e w5 ⟨v5, rfl, hv5, hb5⟩
  rw [← HAB.out.1] at hv5
  obtain ⟨o, so, n0, sc, rfl⟩ := hv5.form
  have HV5 := Lib.hid hv5
  have HNN5 := Lib.hid (Lst.below HNN4.out hb5)
  have HM5 := Lib.hid (Lst.below HM4.out hb5)
  have HB5 := Lib.hid (below_then HB4.out (Nat.le_refl _) hb5)
  clear hv5 hb5
  go_wp2_with fail
  refine (of_any bo bc b w5 (Lst.below HA.out.2 HB5.out) HS.out.2 (by omega)).mono ?_
  rintro e w6 ⟨v6, rfl, hv6, hb6⟩
  rw [← HAB.out.2] at hv6
  obtain ⟨o2, so2, n2, sc2, rfl⟩ := hv6.form
  have HU6 := Lib.hid hv6
  have HV6 := Lib.hid (HV5.out.below hb6)
  have HNN6 := Lib.hid (Lst.below HNN5.out hb6)
  have HM6 := Lib.hid (Lst.below HM5.out hb6)
  have HB6 := Lib.hid (below_then HB5.out (Nat.le_refl _) hb6)
  clear hv6 hb6
  go_upto_region 5 with fail
  obtain ⟨W4, hW4⟩ : ∃ W, W = (w6.alloc (.cells #[.map o, .slice so n0 sc] 40)).alloc (.cells #[.map o2, .slice so2 n2 sc2] 40) := ⟨_, rfl⟩
  have q0 : W4.heap[w6.heap.size]? = some (.cells #[.map o, .slice so n0 sc] 40 (0, 0)) := by
    rw [hW4]
    exact (Below.heap_alloc _ _ w6.heap.size (by simp)).trans (heap_alloc_new w6 _)
  have q1 : W4.heap[w6.heap.size + 1]? = some (.cells #[.map o2, .slice so2 n2 sc2] 40 (0, 0)) := by
    rw [hW4]
    have := heap_alloc_new (w6.alloc (.cells #[.map o, .slice so n0 sc] 40)) (.cells #[.map o2, .slice so2 n2 sc2] 40)
    simpa using this
  have hb4 : Below w6.heap.size w6 W4 := by rw [hW4]; exact ((Below.refl _ _).alloc (Nat.le_refl _) _).alloc (by simp) _
  have hs4 : W4.heap.size = w6.heap.size + 2 := by rw [hW4]; simp
  rw [← hW4]
  have HB7 := Lib.hid (below_then HB6.out (Nat.le_refl _) hb4)
  have HV7 := Lib.hid (HV6.out.below hb4)
  have HU7 := Lib.hid (HU6.out.below hb4)
  have HM7 := Lib.hid (Lst.below HM6.out hb4)
  have HN7 := Lib.hid (Lst.below HNN6.out hb4)
  have HSA := Lib.hid (set_hold q0)
  have HSB := Lib.hid (set_hold q1)
  clear hW4 q0 q1 hb4 hs4
  obtain ⟨nA, hnA⟩ : ∃ n, n = A.length := ⟨_, rfl⟩
  obtain ⟨nB, hnB⟩ : ∃ n, n = B.length := ⟨_, rfl⟩
  rw [← hnA] at HM7 hla ⊢
  rw [← hnB] at HN7 hlb ⊢
  have HNL := Lib.hid (And.intro hnA hnB)
  clear hnA hnB
  obtain ⟨W5, hW5⟩ : ∃ W5, W5 = W4.alloc (.cells #[] 42) := ⟨_, rfl⟩
  have hb5 : Below W4.heap.size W4 W5 := by rw [hW5]; exact (Below.refl _ _).alloc (Nat.le_refl _) _
  have hz5 : W4.heap.size ≤ W5.heap.size := hb5.size
  have HSL := Lib.hid (show Spare W5 W4.heap.size 42 [.int .i64 0, .int .i64 0] (.slice (some ⟨W4.heap.size, 0, none⟩) 0 0) 0 [] from by rw [hW5]; exact Mut.spare_lit W4 W4.heap.size 42 [.int .i64 0, .int .i64 0] (by decide) (Nat.le_refl _))
  have HB8 := Lib.hid hb5
  have HSRC := Lib.hid (Mut.lst_src enD_len (by decide) (Lst.below HM7.out hb5))
  go_wp2_with (at_builtin; rw [← hW5]; refine wpList_append_spareAny rfl (.tmp 28) (.tmp 29) 34 rfl W4.heap.size 42 i0 (.agg #[.int .i64 0, .int .i64 0]) [.int .i64 0, .int .i64 0] 16 Try.underlying34 HI.out.1 HI.out.2.1 rfl HI.out.2.2.1 HI.out.2.2.2 (by decide) (.slice (some ⟨W4.heap.size, 0, none⟩) 0 0) 0 [] rfl HSL.out mo nA mc (A.flatMap enD) rfl ?c1 ?c2 ?c3 ?c4 ?c5 ?c6 ?_)
  case c1 => rw [flatMap_len enD_len, ← HNL.out.1]; rfl
  case c2 => exact HSRC.out
  case c3 => exact cells_one A
  case c4 => unfold maxLen; omega
  case c5 => omega
  case c6 => exact hz5
  intro v8 w8 hs8 hg8 _ _
  have HS8 := Lib.hid (show Spare w8 W4.heap.size 42 [.int .i64 0, .int .i64 0] v8 nA (A.flatMap enD) from by simpa using hs8)
  have HB9 := Lib.hid (show Below W4.heap.size W4 w8 from by
    have h := HB8.out
    rw [hW5] at h
    exact h.grown hg8 (by simp) (fun j hj => ((Spare.own HSL.out).lt j hj).1))
  have hz8 := HB9.out.size
  have HSRC2 := Lib.hid (Mut.lst_src enD_len (by decide) (Lst.below HN7.out HB9.out))
  clear hs8 hg8 hW5 hb5 hz5
  go_wp2_with (at_builtin; refine wpList_append_spareAny rfl (.tmp 30) (.tmp 31) 34 rfl W4.heap.size 42 i0 (.agg #[.int .i64 0, .int .i64 0]) [.int .i64 0, .int .i64 0] 16 Try.underlying34 HI.out.1 HI.out.2.1 rfl HI.out.2.2.1 HI.out.2.2.2 (by decide) v8 nA (A.flatMap enD) rfl HS8.out no nB nc (B.flatMap enD) rfl ?d1 ?d2 ?d3 ?d4 ?d5 ?d6 ?_)
  case d1 => rw [flatMap_len enD_len, ← HNL.out.2]; rfl
  case d2 => exact HSRC2.out
  case d3 => exact cells_one B
  case d4 => unfold maxLen; omega
  case d5 => omega
  case d6 => exact hz8
  intro v9 w9 hs9 hg9 _ _
  have hrow9 : SpR w9 W4.heap.size v9 (A ++ B) := by unfold SpR; rw [List.length_append, ← HNL.out.1, ← HNL.out.2, List.flatMap_append]; exact hs9
  have hlen9 : (A ++ B).length = nA + nB := by rw [List.length_append, ← HNL.out.1, ← HNL.out.2]
  obtain ⟨po, pc, rfl, -, -⟩ := Lst.form (spR_row hrow9)
  rw [hlen9]
  have HP9 := Lib.hid (show DRow w9 (.slice po (nA + nB) pc) (A ++ B) from by rw [← hlen9]; exact spR_row hrow9)
  have HLEN9 := Lib.hid hlen9
  have HB10 := Lib.hid (show Below W4.heap.size W4 w9 from HB9.out.grown hg9 hz8 (fun j hj => ((Spare.own HS8.out).lt j hj).1))
  have HV9 := Lib.hid (HV7.out.below HB10.out)
  have HU9 := Lib.hid (HU7.out.below HB10.out)
  have HM9 := Lib.hid (Lst.below HM7.out HB10.out)
  have HN9 := Lib.hid (Lst.below HN7.out HB10.out)
  clear hs9 hg9 hrow9 hlen9
  obtain ⟨q1, hq1⟩ : ∃ q, coversD A B = q := ⟨_, rfl⟩
  obtain ⟨q2, hq2⟩ : ∃ q, sameD A B = q := ⟨_, rfl⟩
  have HQ := Lib.hid (And.intro hq1 hq2)
  have HBF := Lib.hid (fun W' (h : Below w9.heap.size w9 W') => below_then HB10.out (Nat.le_refl _) h)
  have HCV := Lib.hid (covers_joined A B HNB.out.fine)
  clear hq1 hq2
  go_upto_region 6 with fail
  refine wp_region_told [] 34 [false, false, false, false, false, false, false, false, false, false, false, false, false, false, false, false, false, false, false, false, false, false, false, false, false, false, false, false, false, false, false, false, false, true, true, true, true, true, true, true, true, true, true, true, true, true, true, true, true, true, true, true, true, true, true, true, true, true, true, true, true, true, true, true, true, true, true]
    [sLit (.agg #[.map o, .slice so n0 sc]),
    sLit (.agg #[.map o2, .slice so2 n2 sc2]),
    sSet (setOf (A ++ B)),
    sLit (.slice po (nA + nB) pc),
    sRow (setOf (A ++ B)),
    sLit (.bool true),
    sLit (.bool true),
    sLit (.agg #[.map o, .slice so n0 sc]),
    sLit (.agg #[.map o2, .slice so2 n2 sc2]),
    sLit (.bool q1),
    sLit (.slice mo nA mc),
    sLit (.slice no nB nc),
    sLit (.bool q1),
    sLit (.bool true),
    sLit (.bool true),
    sLit (.bool true),
    sLit (.agg #[.map o, .slice so n0 sc]),
    sLit (.agg #[.map o2, .slice so2 n2 sc2]),
    sLit (.bool q2),
    sLit (.slice mo nA mc),
    sLit (.slice no nB nc),
    sLit (.bool q2),
    sLit (.bool true),
    sLit (.bool true),
    sLit (.bool true),
    sLit (.agg #[.map o, .slice so n0 sc]),
    sLit (.agg #[.map o2, .slice so2 n2 sc2]),
    sSet (setOf (A ++ B)),
    sLit (.agg #[.map o2, .slice so2 n2 sc2]),
    sLit (.bool true),
    sLit (.bool true),
    sLit (.bool true),
    sLit (.bool true),
    sLit (.bool true)] (by kernel_rfl) (by kernel_rfl) (by kernel_rfl) (fun F hF => ?_)
  simp only [over, overL, Nat.reduceAdd] at hF
  obtain rfl := funext hF
  clear hF
  refine ⟨⟨?_, ?_, ?_, ?_, ?_, ?_, ?_, ?_, ?_, ?_, ?_, ?_, ?_, ?_, ?_, ?_, ?_, ?_, ?_, ?_, ?_, ?_, ?_, ?_, ?_, ?_, ?_, ?_, ?_, ?_, ?_, ?_, ?_, ?_, trivial⟩, ?_⟩
  · intro V W hb hd K hK _
    clear hd
    obtain ⟨c0, c1⟩ := HSA.out W (HBF.out W hb)
    go_wp2_with fail
    refine hK _ _ ?_ ?_ ?_ ?_
    · rfl
    · exact Below.refl _ _
    · exact rfl
    · trivial
  · intro V W hb hd K hK _
    clear hd
    obtain ⟨c2, c3⟩ := HSB.out W (HBF.out W hb)
    go_wp2_with fail
    refine hK _ _ ?_ ?_ ?_ ?_
    · rfl
    · exact Below.refl _ _
    · exact rfl
    · trivial
  · intro V W hb hd K hK _
    have h0 : (V 33) = .agg #[.map o, .slice so n0 sc] := hd 0 (by kernel_rfl)
    have h1 : (V 34) = .agg #[.map o2, .slice so2 n2 sc2] := hd 1 (by kernel_rfl)
    clear hd
    go_wp2_with fail
    refine (dots_join_any _ _ A B W (HV9.out.below hb) (HU9.out.below hb) HNA.out HNB.out (by have h1 := HNL.out.1; have h2 := HNL.out.2; omega)).mono ?_
    rintro e w1 ⟨v1, rfl, hv1, hb1⟩
    go_wp2_with fail
    refine hK _ _ ?_ ?_ ?_ ?_
    · rfl
    · exact hb1
    · exact hv1
    · trivial
  · intro V W hb hd K hK _
    clear hd
    go_wp2_with fail
    refine hK _ _ ?_ ?_ ?_ ?_
    · rfl
    · exact Below.refl _ _
    · exact rfl
    · trivial
  · intro V W hb hd K hK _
    have h3 : (V 36) = .slice po (nA + nB) pc := hd 3 (by kernel_rfl)
    clear hd
    have HRO := Lib.hid (by have h := refsetof_any po pc (A ++ B) W (by rw [HLEN9.out]; exact Lst.below HP9.out hb) (by rw [HLEN9.out]; omega); rw [HLEN9.out] at h; exact h)
    go_wp2_with fail
    refine (HRO.out).mono ?_
    rintro e w1 ⟨v1, rfl, hv1, hb1⟩
    go_wp2_with fail
    refine hK _ _ ?_ ?_ ?_ ?_
    · rfl
    · exact hb1
    · exact hv1
    · trivial
  · intro V W hb hd K hK _
    have h2 : SAt W (V 35) (setOf (A ++ B)) := hd 2 (by kernel_rfl)
    have h4 : DRow W (V 37) (setOf (A ++ B)) := hd 4 (by kernel_rfl)
    clear hd
    obtain ⟨xo, xc, e4, -, -⟩ := Lst.form h4
    have HIS := Lib.hid (law_is_any (V 35) xo xc (setOf (A ++ B)) W h2 (by rw [← e4]; exact h4) HNJ.out)
    clear h2 h4
    go_wp2_with fail
    refine HIS.out.mono ?_
    rintro e w1 ⟨rfl, hb1⟩
    go_wp2_with fail
    refine hK _ _ ?_ ?_ ?_ ?_
    · rfl
    · exact hb1
    · rfl
    · trivial
  · intro V W hb hd K hK _
    have h5 : (V 38) = .bool true := hd 5 (by kernel_rfl)
    clear hd
    go_wp2_with fail
    refine hK _ _ ?_ ?_ ?_ ?_
    · rfl
    · exact Below.refl _ _
    · exact rfl
    · trivial
  · intro V W hb hd K hK _
    have h6 : (V 39) = .bool true := hd 6 (by kernel_rfl)
    clear hd
    obtain ⟨c0, c1⟩ := HSA.out W (HBF.out W hb)
    go_wp2_with fail
    refine hK _ _ ?_ ?_ ?_ ?_
    · rfl
    · exact Below.refl _ _
    · exact rfl
    · trivial
  · intro V W hb hd K hK _
    have h6 : (V 39) = .bool true := hd 6 (by kernel_rfl)
    clear hd
    obtain ⟨c2, c3⟩ := HSB.out W (HBF.out W hb)
    go_wp2_with fail
    refine hK _ _ ?_ ?_ ?_ ?_
    · rfl
    · exact Below.refl _ _
    · exact rfl
    · trivial
  · intro V W hb hd K hK _
    have h6 : (V 39) = .bool true := hd 6 (by kernel_rfl)
    have h7 : (V 40) = .agg #[.map o, .slice so n0 sc] := hd 7 (by kernel_rfl)
    have h8 : (V 41) = .agg #[.map o2, .slice so2 n2 sc2] := hd 8 (by kernel_rfl)
    clear hd
    go_wp2_with fail
    refine (covers_lit q1 _ _ A B W HQ.out.1 (HV9.out.below hb) (HU9.out.below hb) HNA.out HNB.out).mono ?_
    rintro e w1 ⟨rfl, hb1⟩
    go_wp2_with fail
    refine hK _ _ ?_ ?_ ?_ ?_
    · rfl
    · exact hb1
    · exact rfl
    · trivial
  · intro V W hb hd K hK _
    have h6 : (V 39) = .bool true := hd 6 (by kernel_rfl)
    clear hd
    go_wp2_with fail
    refine hK _ _ ?_ ?_ ?_ ?_
    · rfl
    · exact Below.refl _ _
    · exact rfl
    · trivial
  · intro V W hb hd K hK _
    have h6 : (V 39) = .bool true := hd 6 (by kernel_rfl)
    clear hd
    go_wp2_with fail
    refine hK _ _ ?_ ?_ ?_ ?_
    · rfl
    · exact Below.refl _ _
    · exact rfl
    · trivial
  · intro V W hb hd K hK _
    have h6 : (V 39) = .bool true := hd 6 (by kernel_rfl)
    have h10 : (V 43) = .slice mo nA mc := hd 10 (by kernel_rfl)
    have h11 : (V 44) = .slice no nB nc := hd 11 (by kernel_rfl)
    clear hd
    have HRH := Lib.hid (by have h := refcovers_lit q1 mo no mc nc A B W HQ.out.1 (show DRow W (.slice mo A.length mc) A from by rw [← HNL.out.1]; exact Lst.below HM9.out hb) (show DRow W (.slice no B.length nc) B from by rw [← HNL.out.2]; exact Lst.below HN9.out hb) (by rw [← HNL.out.1]; omega) (by rw [← HNL.out.2]; omega); rw [← HNL.out.1, ← HNL.out.2] at h; exact h)
    go_wp2_with fail
    refine (HRH.out).mono ?_
    rintro e w1 ⟨rfl, hb1⟩
    go_wp2_with fail
    refine hK _ _ ?_ ?_ ?_ ?_
    · rfl
    · exact hb1
    · exact rfl
    · trivial
  · intro V W hb hd K hK _
    have h6 : (V 39) = .bool true := hd 6 (by kernel_rfl)
    have h9 : (V 42) = .bool q1 := hd 9 (by kernel_rfl)
    have h12 : (V 45) = .bool q1 := hd 12 (by kernel_rfl)
    clear hd
    go_wp2_with fail
    refine hK _ _ ?_ ?_ ?_ ?_
    · rfl
    · exact Below.refl _ _
    · show Value.bool _ = Value.bool true; simp
    · trivial
  · intro V W hb hd K hK _
    have h6 : (V 39) = .bool true := hd 6 (by kernel_rfl)
    have h13 : (V 46) = .bool true := hd 13 (by kernel_rfl)
    clear hd
    go_wp2_with fail
    refine hK _ _ ?_ ?_ ?_ ?_
    · rfl
    · exact Below.refl _ _
    · exact rfl
    · trivial
  · intro V W hb hd K hK _
    have h14 : (V 47) = .bool true := hd 14 (by kernel_rfl)
    clear hd
    go_wp2_with fail
    refine hK _ _ ?_ ?_ ?_ ?_
    · rfl
    · exact Below.refl _ _
    · exact rfl
    · trivial
  · intro V W hb hd K hK _
    have h15 : (V 48) = .bool true := hd 15 (by kernel_rfl)
    clear hd
    obtain ⟨c0, c1⟩ := HSA.out W (HBF.out W hb)
    go_wp2_with fail
    refine hK _ _ ?_ ?_ ?_ ?_
    · rfl
    · exact Below.refl _ _
    · exact rfl
    · trivial
  · intro V W hb hd K hK _
    have h15 : (V 48) = .bool true := hd 15 (by kernel_rfl)
    clear hd
    obtain ⟨c2, c3⟩ := HSB.out W (HBF.out W hb)
    go_wp2_with fail
    refine hK _ _ ?_ ?_ ?_ ?_
    · rfl
    · exact Below.refl _ _
    · exact rfl
    · trivial
  · intro V W hb hd K hK _
    have h15 : (V 48) = .bool true := hd 15 (by kernel_rfl)
    have h16 : (V 49) = .agg #[.map o, .slice so n0 sc] := hd 16 (by kernel_rfl)
    have h17 : (V 50) = .agg #[.map o2, .slice so2 n2 sc2] := hd 17 (by kernel_rfl)
    clear hd
    go_wp2_with fail
    refine (same_lit q2 _ _ A B W HQ.out.2 (HV9.out.below hb) (HU9.out.below hb) HNA.out HNB.out).mono ?_
    rintro e w1 ⟨rfl, hb1⟩
    go_wp2_with fail
    refine hK _ _ ?_ ?_ ?_ ?_
    · rfl
    · exact hb1
    · exact rfl
    · trivial
  · intro V W hb hd K hK _
    have h15 : (V 48) = .bool true := hd 15 (by kernel_rfl)
    clear hd
    go_wp2_with fail
    refine hK _ _ ?_ ?_ ?_ ?_
    · rfl
    · exact Below.refl _ _
    · exact rfl
    · trivial
  · intro V W hb hd K hK _
    have h15 : (V 48) = .bool true := hd 15 (by kernel_rfl)
    clear hd
    go_wp2_with fail
    refine hK _ _ ?_ ?_ ?_ ?_
    · rfl
    · exact Below.refl _ _
    · exact rfl
    · trivial
  · intro V W hb hd K hK _
    have h15 : (V 48) = .bool true := hd 15 (by kernel_rfl)
    have h19 : (V 52) = .slice mo nA mc := hd 19 (by kernel_rfl)
    have h20 : (V 53) = .slice no nB nc := hd 20 (by kernel_rfl)
    clear hd
    have HRH := Lib.hid (by have h := refsame_lit q2 mo no mc nc A B W HQ.out.2 (show DRow W (.slice mo A.length mc) A from by rw [← HNL.out.1]; exact Lst.below HM9.out hb) (show DRow W (.slice no B.length nc) B from by rw [← HNL.out.2]; exact Lst.below HN9.out hb) (by rw [← HNL.out.1]; omega) (by rw [← HNL.out.2]; omega); rw [← HNL.out.1, ← HNL.out.2] at h; exact h)
    go_wp2_with fail
    refine (HRH.out).mono ?_
    rintro e w1 ⟨rfl, hb1⟩
    go_wp2_with fail
    refine hK _ _ ?_ ?_ ?_ ?_
    · rfl
    · exact hb1
    · exact rfl
    · trivial
  · intro V W hb hd K hK _
    have h15 : (V 48) = .bool true := hd 15 (by kernel_rfl)
    have h18 : (V 51) = .bool q2 := hd 18 (by kernel_rfl)
    have h21 : (V 54) = .bool q2 := hd 21 (by kernel_rfl)
    clear hd
    go_wp2_with fail
    refine hK _ _ ?_ ?_ ?_ ?_
    · rfl
    · exact Below.refl _ _
    · show Value.bool _ = Value.bool true; simp
    · trivial
  · intro V W hb hd K hK _
    have h15 : (V 48) = .bool true := hd 15 (by kernel_rfl)
    have h22 : (V 55) = .bool true := hd 22 (by kernel_rfl)
    clear hd
    go_wp2_with fail
    refine hK _ _ ?_ ?_ ?_ ?_
    · rfl
    · exact Below.refl _ _
    · exact rfl
    · trivial
  · intro V W hb hd K hK _
    have h23 : (V 56) = .bool true := hd 23 (by kernel_rfl)
    clear hd
    go_wp2_with fail
    refine hK _ _ ?_ ?_ ?_ ?_
    · rfl
    · exact Below.refl _ _
    · exact rfl
    · trivial
  · intro V W hb hd K hK _
    have h24 : (V 57) = .bool true := hd 24 (by kernel_rfl)
    clear hd
    obtain ⟨c0, c1⟩ := HSA.out W (HBF.out W hb)
    go_wp2_with fail
    refine hK _ _ ?_ ?_ ?_ ?_
    · rfl
    · exact Below.refl _ _
    · exact rfl
    · trivial
  · intro V W hb hd K hK _
    have h24 : (V 57) = .bool true := hd 24 (by kernel_rfl)
    clear hd
    obtain ⟨c2, c3⟩ := HSB.out W (HBF.out W hb)
    go_wp2_with fail
    refine hK _ _ ?_ ?_ ?_ ?_
    · rfl
    · exact Below.refl _ _
    · exact rfl
    · trivial
  · intro V W hb hd K hK _
    have h24 : (V 57) = .bool true := hd 24 (by kernel_rfl)
    have h25 : (V 58) = .agg #[.map o, .slice so n0 sc] := hd 25 (by kernel_rfl)
    have h26 : (V 59) = .agg #[.map o2, .slice so2 n2 sc2] := hd 26 (by kernel_rfl)
    clear hd
    go_wp2_with fail
    refine (dots_join_any _ _ A B W (HV9.out.below hb) (HU9.out.below hb) HNA.out HNB.out (by have h1 := HNL.out.1; have h2 := HNL.out.2; omega)).mono ?_
    rintro e w1 ⟨v1, rfl, hv1, hb1⟩
    go_wp2_with fail
    refine hK _ _ ?_ ?_ ?_ ?_
    · rfl
    · exact hb1
    · exact hv1
    · trivial
  · intro V W hb hd K hK _
    have h24 : (V 57) = .bool true := hd 24 (by kernel_rfl)
    clear hd
    obtain ⟨c2, c3⟩ := HSB.out W (HBF.out W hb)
    go_wp2_with fail
    refine hK _ _ ?_ ?_ ?_ ?_
    · rfl
    · exact Below.refl _ _
    · exact rfl
    · trivial
  · intro V W hb hd K hK _
    have h24 : (V 57) = .bool true := hd 24 (by kernel_rfl)
    have h27 : SAt W (V 60) (setOf (A ++ B)) := hd 27 (by kernel_rfl)
    have h28 : (V 61) = .agg #[.map o2, .slice so2 n2 sc2] := hd 28 (by kernel_rfl)
    clear hd
    go_wp2_with fail
    refine (covers_lit true (V 60) _ (setOf (A ++ B)) B W HCV.out h27 (HU9.out.below hb) HNJ.out HNB.out).mono ?_
    rintro e w1 ⟨rfl, hb1⟩
    go_wp2_with fail
    refine hK _ _ ?_ ?_ ?_ ?_
    · rfl
    · exact hb1
    · exact rfl
    · trivial
  · intro V W hb hd K hK _
    have h24 : (V 57) = .bool true := hd 24 (by kernel_rfl)
    have h29 : (V 62) = .bool true := hd 29 (by kernel_rfl)
    clear hd
    go_wp2_with fail
    refine hK _ _ ?_ ?_ ?_ ?_
    · rfl
    · exact Below.refl _ _
    · exact rfl
    · trivial
  · intro V W hb hd K hK _
    have h30 : (V 63) = .bool true := hd 30 (by kernel_rfl)
    clear hd
    go_wp2_with fail
    refine hK _ _ ?_ ?_ ?_ ?_
    · rfl
    · exact Below.refl _ _
    · exact rfl
    · trivial
  · intro V W hb hd K hK _
    have h31 : (V 64) = .bool true := hd 31 (by kernel_rfl)
    clear hd
    go_wp2_with fail
    refine (alive_any W).mono ?_
    rintro e w1 ⟨rfl, hb1⟩
    go_wp2_with fail
    refine hK _ _ ?_ ?_ ?_ ?_
    · rfl
    · exact hb1
    · exact rfl
    · trivial
  · intro V W hb hd K hK _
    have h31 : (V 64) = .bool true := hd 31 (by kernel_rfl)
    have h32 : (V 65) = .bool true := hd 32 (by kernel_rfl)
    clear hd
    go_wp2_with fail
    refine hK _ _ ?_ ?_ ?_ ?_
    · rfl
    · exact Below.refl _ _
    · exact rfl
    · trivial
  · intro V W hb hd hap
    have h33 : (V 66) = .bool true := hd 33 (by decide)
    clear hd hap
    simp only [List.drop_succ_cons, List.drop_zero]
    have HFB := Lib.hid (below_then HB7.out (Nat.le_refl _) (HBF.out W hb))
    clear hb
    go_wp2_with fail
    go_ret
    exact ⟨rfl, HFB.out⟩
theorem dotsJoins_any (v u : Value) (a b : List P) (w : World) (ha : DRow w v a) (hb : DRow w u b) (sa : Sm a) (sb : Sm b) :
    Calls Try.prog 5 #[v, u] w fun e w' => e = .returned (.bool true) ∧ Below w.heap.size w w' := by
  obtain ⟨ao, ac, rfl, -, -⟩ := Lst.form ha
  obtain ⟨bo, bc, rfl, -, -⟩ := Lst.form hb
  by_cases h : 60 < a.length ∨ 60 < b.length
  · exact joins_out ao bo _ _ ac bc w h
  · exact joins_in ao bo ac bc a b w ha hb sa sb (by omega) (by omega)
end Go.Proofs.Ytihfcohebgemdaa.Dots
