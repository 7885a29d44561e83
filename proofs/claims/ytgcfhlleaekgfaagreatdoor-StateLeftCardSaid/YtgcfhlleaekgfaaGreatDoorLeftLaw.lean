/- The walk of the law StateLeft (layer 8). PRINTED by wip/genleft.py. -/
import Derived.Test.YtgcfhlleaekgfaaGreatDoorRefState
import Derived.Deep.RegionHeld3
namespace Go.Proofs.YtgcfhlleaekgfaaGreatDoor.Mut
open Go.RowKit Go.Sort Go.Proofs.YtgcfhlleaekgfaaGreatDoor.Ord

theorem left_one {S : Mu → Prop} {c d : Con} (h : Reps S c) (g : Says S d.cells d.wipes d.sibs) : c = d := Says.eq h g
theorem left_add {A : List Ro} {m : Ro} {c d : Con} (h : Reps (fun y => Fits (A.map (·.1)) y ∨ (y = m.1 ∧ rightF m.1 = true)) c) (g : Says (Fits ((A ++ [m]).map (·.1))) d.cells d.wipes d.sibs) : c = d := by
  rw [List.map_append] at g
  exact Says.eq (h.same fun y => (fits_snoc _ _ _).symm) g
theorem left_join {A B : List Ro} {c d : Con} (h : Reps (fun y => Fits (A.map (·.1)) y ∨ Fits (B.map (·.1)) y) c) (g : Says (Fits ((A ++ B).map (·.1))) d.cells d.wipes d.sibs) : c = d := by
  rw [List.map_append] at g
  refine Says.eq (h.same fun y => ?_) g
  unfold Fits
  rw [List.mem_append]
  constructor
  · rintro (⟨h, h2⟩ | ⟨h, h2⟩)
    · exact ⟨Or.inl h, h2⟩
    · exact ⟨Or.inr h, h2⟩
  · rintro ⟨h | h, h2⟩
    · exact Or.inl ⟨h, h2⟩
    · exact Or.inr ⟨h, h2⟩
theorem okc_small {c : Con} {n : Nat} (h : Okc c n) : allSmall c := fun m hm => small_right (h.right m hm)
/-- The row with one more. -/
def MoreAt (w0 : World) (L : List Ro) (n : Nat) (v : Value) (w : World) : Prop := ∃ ao c, v = .slice ao n c ∧ MRow w (.slice ao n c) L ∧ RowKit.Below w0.heap.size w0 w

set_option maxHeartbeats 8000000 in
set_option maxRecDepth 100000 in
theorem left_any (v1 v2 : Value) (A B : List Ro) (m : Ro) (w : World) (hT : Tabs w) (hA : MRow w v1 A) (hB : MRow w v2 B) (hm : Over w m) (zA : ∀ x ∈ A, x.1.key.size ≤ maxLen ∧ x.1.fin.size ≤ maxLen ∧ x.1.val.size ≤ maxLen) (zB : ∀ x ∈ B, x.1.key.size ≤ maxLen ∧ x.1.fin.size ≤ maxLen ∧ x.1.val.size ≤ maxLen) (zm : m.1.key.size ≤ maxLen ∧ m.1.fin.size ≤ maxLen ∧ m.1.val.size ≤ maxLen) :
    Calls Tryz.prog 3 #[v1, v2, vM m] w fun e w' => e = .returned (.bool true) ∧ RowKit.Below w.heap.size w w' := by
  have HGa := Lib.hid (fun (W : World) (hW : RowKit.Below w.heap.size w W) => great_any v1 A 40 W (hA.below hW) (by decide) zA)
  have HGb := Lib.hid (fun (W : World) (hW : RowKit.Below w.heap.size w W) => great_any v2 B 40 W (hB.below hW) (by decide) zB)
  have HGm := Lib.hid (fun (W : World) (hW : RowKit.Below w.heap.size w W) => great_any (.slice (some ⟨W.heap.size, 0, none⟩) 1 1) [m] 1 (W.alloc (.cells ⟨enM m⟩ 29)) (one_row (hm.below hW)) (by decide) (fun x hx => by rw [List.mem_singleton.1 hx]; exact zm))
  obtain ⟨ga, hga⟩ : ∃ q, q = greatF (A.map (·.1)) 40 := ⟨_, rfl⟩
  obtain ⟨gb, hgb⟩ : ∃ q, q = greatF (B.map (·.1)) 40 := ⟨_, rfl⟩
  obtain ⟨gm, hgm⟩ : ∃ q, q = greatF ([m].map (·.1)) 1 := ⟨_, rfl⟩
  rw [← hga] at HGa
  rw [← hgb] at HGb
  rw [← hgm] at HGm
  obtain ⟨ao, ac, rfl, -, -⟩ := hA.form
  obtain ⟨bo, bc, rfl, -, -⟩ := hB.form
  obtain ⟨na, hna⟩ : ∃ k, k = A.length := ⟨_, rfl⟩
  obtain ⟨nb, hnb⟩ : ∃ k, k = B.length := ⟨_, rfl⟩
  rw [← hna] at hA HGa ⊢
  rw [← hnb] at hB HGb ⊢
  have HT := Lib.hid hT
  have HA := Lib.hid hA
  have HB := Lib.hid hB
  have HM := Lib.hid hm
  have HGG := Lib.hid (And.intro hga (And.intro hgb hgm))
  have HNN := Lib.hid (And.intro hna hnb)
  have hA0 := A0.of (At.new w 29 m)
  have hW := (Below.refl _ w).alloc (Nat.le_refl _) (.cells (enM m).toArray 29)
  obtain ⟨W0, hW0⟩ : ∃ W0, W0 = w.alloc (.cells (enM m).toArray 29) := ⟨_, rfl⟩
  rw [← hW0] at hA0 hW
  obtain ⟨n0, hn0⟩ : ∃ n0, n0 = w.heap.size := ⟨_, rfl⟩
  have HA0 := Lib.hid hA0
  have HW := Lib.hid hW
  have HW0 := Lib.hid hW0
  have HROW := Lib.hid (fun (W : World) (hW : RowKit.Below w.heap.size w W) (k : Nat) (hk : W.heap[k]? = some (.cells ⟨enM m⟩ 29)) => one_row_at hk (hm.below hW))
  have HADD := Lib.hid (fun (W : World) (hW : RowKit.Below w.heap.size w W) (hs : Small m.1) (a b d : Value) (c : Con) (S : Mu → Prop) (n : Nat) (h1 : Lies W a b d c) (h2 : Reps S c) (h3 : Okc c n) (h4 : n ≤ 100000) => add_any a b d c S n m W (hT.below hW) h1 h2 h3 h4 (hm.below hW) hs)
  obtain ⟨xo, xc, ex, -, -⟩ := Over.form hm
  clear hT hA hB hm zA zB zm hga hgb hgm hna hnb hA0 hW hW0
  obtain ⟨⟨at1, ak1, akey1, afin1, aval1, aex1, ⟨ap1, al1, aw1⟩, aov1⟩, av1⟩ := m
  simp only [] at ex
  obtain ⟨xn, hxn⟩ : ∃ k, k = aov1.length := ⟨_, rfl⟩
  rw [← hxn] at ex
  subst ex
  clear hxn
  unfold vM at HADD ⊢
  unfold enM at HGm HW0 HROW
  simp only [] at HADD HGm HW0 HROW ⊢
  go_enter Tryz.func3, Tryz.ntmps3
  go_upto_region 1 with fail
  rw [← HW0.out, ← hn0]
  clear HW0
  rw [← hn0] at HA0
  have HN0 := Lib.hid hn0
  clear hn0
  go_wp2_with fail
  refine (HGa.out _ HW.out).mono ?_
  rintro e w1 ⟨rfl, rfl⟩
  cases ga
  case true =>
    go_wp2_with fail
    go_ret
    exact ⟨rfl, HW.out⟩
  go_wp2_with fail
  refine (HGb.out _ HW.out).mono ?_
  rintro e w1 ⟨rfl, rfl⟩
  cases gb
  case true =>
    go_wp2_with fail
    go_ret
    exact ⟨rfl, HW.out⟩
  obtain ⟨-, c0, c1, c2, c3, c4, c5, c6, c7, c8, c9⟩ := HA0.out
  simp only [] at c0 c1 c2 c3 c4 c5 c6 c7 c8 c9
  go_wp2_with fail
  refine (HGm.out _ HW.out).mono ?_
  rintro e w1 ⟨rfl, rfl⟩
  have HB1 := Lib.hid (HW.out.alloc HW.out.size (.cells #[.int .i64 at1, .int .i64 ak1, .string akey1, .string afin1, .string aval1, .int .i64 aex1, .int .i64 ap1, .int .i64 al1, .int .i64 aw1, .slice xo xn xc] 29))
  cases gm
  case true =>
    go_wp2_with fail
    go_ret
    exact ⟨rfl, HB1.out⟩
  have HA1 := Lib.hid (HA0.out.below ((Below.refl _ _).alloc (Nat.le_refl _) (.cells #[.int .i64 at1, .int .i64 ak1, .string akey1, .string afin1, .string aval1, .int .i64 aex1, .int .i64 ap1, .int .i64 al1, .int .i64 aw1, .slice xo xn xc] 29)))
  obtain ⟨W1, hW1⟩ : ∃ W1, W1 = W0.alloc (.cells #[.int .i64 at1, .int .i64 ak1, .string akey1, .string afin1, .string aval1, .int .i64 aex1, .int .i64 ap1, .int .i64 al1, .int .i64 aw1, .slice xo xn xc] 29) := ⟨_, rfl⟩
  rw [← hW1] at HA1 HB1 ⊢
  clear hW1 c0 c1 c2 c3 c4 c5 c6 c7 c8 c9 HGa HGb HGm HA0 HW
  obtain ⟨lA, sA⟩ := great_small HGG.out.1.symm
  obtain ⟨lB, sB⟩ := great_small HGG.out.2.1.symm
  obtain ⟨-, sm⟩ := great_small HGG.out.2.2.symm
  rw [List.length_map] at lA lB
  have l1 : na ≤ 40 := by have := HNN.out.1; omega
  have l2 : nb ≤ 40 := by have := HNN.out.2; omega
  have HS := Lib.hid (show (∀ x ∈ A, Small x.1) ∧ (∀ x ∈ B, Small x.1) ∧ Small (⟨⟨at1, ak1, akey1, afin1, aval1, aex1, ⟨ap1, al1, aw1⟩, aov1⟩, .slice xo xn xc⟩ : Ro).1 from ⟨fun x hx => sA _ (List.mem_map.2 ⟨x, hx, rfl⟩), fun x hx => sB _ (List.mem_map.2 ⟨x, hx, rfl⟩), sm _ (by simp)⟩)
  clear lA lB sA sB sm HGG
  go_wp2_with fail
  refine (of_any _ A W1 (HT.out.below HB1.out) (HA.out.below HB1.out) (by have := HNN.out.1; omega) HS.out.1).mono ?_
  rintro e w1 ⟨a1, b1, d1, x, rfl, hl, hr, ho, hb⟩
  have HRx := Lib.hid (And.intro hr ho)
  have HL1 := Lib.hid (HasC.cons hl (HasC.nil w1))
  have HB2 := Lib.hid (below_then HB1.out (Nat.le_refl _) hb)
  have HA2 := Lib.hid (HA1.out.below hb)
  clear hl hr ho hb HA1 HB1
  go_wp2_with fail
  refine (of_any _ B w1 (HT.out.below HB2.out) (HB.out.below HB2.out) (by have := HNN.out.2; omega) HS.out.2.1).mono ?_
  rintro e w2 ⟨a2, b2, d2, y, rfl, hl, hr, ho, hb⟩
  have HRy := Lib.hid (And.intro hr ho)
  have HL2 := Lib.hid (HasC.cons hl (HL1.out.below hb))
  have HB3 := Lib.hid (below_then HB2.out (Nat.le_refl _) hb)
  have HA3 := Lib.hid (HA2.out.below hb)
  clear hl hr ho hb HA2 HB2 HL1
  obtain ⟨p1, q1, r1, hv1⟩ := (HL2.out.get (by simp) : Lies _ a1 b1 d1 x).cells.slice
  obtain ⟨p2, q2, r2, hv2⟩ := (HL2.out.get (by simp) : Lies _ a1 b1 d1 x).wipes.slice
  obtain ⟨p3, q3, r3, hv3⟩ := (HL2.out.get (by simp) : Lies _ a1 b1 d1 x).sibs.slice
  obtain ⟨p4, q4, r4, hv4⟩ := (HL2.out.get (by simp) : Lies _ a2 b2 d2 y).cells.slice
  obtain ⟨p5, q5, r5, hv5⟩ := (HL2.out.get (by simp) : Lies _ a2 b2 d2 y).wipes.slice
  obtain ⟨p6, q6, r6, hv6⟩ := (HL2.out.get (by simp) : Lies _ a2 b2 d2 y).sibs.slice
  subst hv1 hv2 hv3 hv4 hv5 hv6
  go_upto_region 4 with fail
  obtain ⟨W3, hW3⟩ : ∃ W3, W3 = ((w2.alloc (.cells #[.slice p1 q1 r1, .slice p2 q2 r2, .slice p3 q3 r3] 32)).alloc (.cells #[.slice p4 q4 r4, .slice p5 q5 r5, .slice p6 q6 r6] 32)) := ⟨_, rfl⟩
  rw [← hW3]
  have hb3 : RowKit.Below w2.heap.size w2 W3 := by rw [hW3]; exact ((Below.refl _ w2).alloc (Nat.le_refl _) _).alloc (by simp) _
  have x3 : C3 W3 w2.heap.size (.slice p1 q1 r1) (.slice p2 q2 r2) (.slice p3 q3 r3) := by
    rw [hW3]
    exact (C3.new w2 _ _ _).below ((Below.refl _ _).alloc (Nat.le_refl _) _)
  have y3 : C3 W3 (w2.heap.size + 1) (.slice p4 q4 r4) (.slice p5 q5 r5) (.slice p6 q6 r6) := by
    rw [hW3]
    have := C3.new (w2.alloc (.cells #[.slice p1 q1 r1, .slice p2 q2 r2, .slice p3 q3 r3] 32)) (.slice p4 q4 r4) (.slice p5 q5 r5) (.slice p6 q6 r6)
    rwa [World.size_alloc] at this
  have HX3 := Lib.hid (And.intro x3 (And.intro y3 (HA3.out.below hb3)))
  have HL3 := Lib.hid (HL2.out.below hb3)
  have HB4 := Lib.hid (below_then HB3.out (Nat.le_refl _) hb3)
  obtain ⟨n2, hn2⟩ : ∃ n2, n2 = w2.heap.size := ⟨_, rfl⟩
  rw [← hn2] at HX3 ⊢
  clear hW3 hb3 x3 y3 hn2 HL2 HA3 HB3
  go_wp2_with fail
  refine (refof_any _ A W3 (HT.out.below HB4.out) (HA.out.below HB4.out) HS.out.1 (by have := HNN.out.1; omega)).mono ?_
  rintro e w4 ⟨a3, b3, d3, u, rfl, hl, hr, ho, hb⟩
  have HRu := Lib.hid (And.intro hr ho)
  have HL4 := Lib.hid (HasC.cons hl (HL3.out.below hb))
  have HB5 := Lib.hid (below_then HB4.out (Nat.le_refl _) hb)
  have HX4 := Lib.hid (And.intro (HX3.out.1.below hb) (And.intro (HX3.out.2.1.below hb) (HX3.out.2.2.below hb)))
  clear hl hr ho hb HL3 HX3 HB4
  go_wp2_with fail
  refine (refof_any _ B w4 (HT.out.below HB5.out) (HB.out.below HB5.out) HS.out.2.1 (by have := HNN.out.2; omega)).mono ?_
  rintro e w5 ⟨a4, b4, d4, v, rfl, hl, hr, ho, hb⟩
  have HRv := Lib.hid (And.intro hr ho)
  have HL5 := Lib.hid (HasC.cons hl (HL4.out.below hb))
  have HB6 := Lib.hid (below_then HB5.out (Nat.le_refl _) hb)
  have HX5 := Lib.hid (And.intro (HX4.out.1.below hb) (And.intro (HX4.out.2.1.below hb) (HX4.out.2.2.below hb)))
  clear hl hr ho hb HL4 HX4 HB5
  obtain ⟨p7, q7, r7, hv1⟩ := (HL5.out.get (by simp) : Lies _ a3 b3 d3 u).cells.slice
  obtain ⟨p8, q8, r8, hv2⟩ := (HL5.out.get (by simp) : Lies _ a3 b3 d3 u).wipes.slice
  obtain ⟨p9, q9, r9, hv3⟩ := (HL5.out.get (by simp) : Lies _ a3 b3 d3 u).sibs.slice
  obtain ⟨p10, q10, r10, hv4⟩ := (HL5.out.get (by simp) : Lies _ a4 b4 d4 v).cells.slice
  obtain ⟨p11, q11, r11, hv5⟩ := (HL5.out.get (by simp) : Lies _ a4 b4 d4 v).wipes.slice
  obtain ⟨p12, q12, r12, hv6⟩ := (HL5.out.get (by simp) : Lies _ a4 b4 d4 v).sibs.slice
  subst hv1 hv2 hv3 hv4 hv5 hv6
  go_upto_region 5 with fail
  obtain ⟨W6, hW6⟩ : ∃ W6, W6 = ((w5.alloc (.cells #[.slice p7 q7 r7, .slice p8 q8 r8, .slice p9 q9 r9] 34)).alloc (.cells #[.slice p10 q10 r10, .slice p11 q11 r11, .slice p12 q12 r12] 34)) := ⟨_, rfl⟩
  rw [← hW6]
  have hb6 : RowKit.Below w5.heap.size w5 W6 := by rw [hW6]; exact ((Below.refl _ w5).alloc (Nat.le_refl _) _).alloc (by simp) _
  have u6 : C3 W6 w5.heap.size (.slice p7 q7 r7) (.slice p8 q8 r8) (.slice p9 q9 r9) := by
    rw [hW6]
    exact (C3.newR w5 _ _ _).below ((Below.refl _ _).alloc (Nat.le_refl _) _)
  have v6 : C3 W6 (w5.heap.size + 1) (.slice p10 q10 r10) (.slice p11 q11 r11) (.slice p12 q12 r12) := by
    rw [hW6]
    have := C3.newR (w5.alloc (.cells #[.slice p7 q7 r7, .slice p8 q8 r8, .slice p9 q9 r9] 34)) (.slice p10 q10 r10) (.slice p11 q11 r11) (.slice p12 q12 r12)
    rwa [World.size_alloc] at this
  have hx6 := And.intro (HX5.out.1.below hb6) (And.intro (HX5.out.2.1.below hb6) (And.intro u6 (And.intro v6 (HX5.out.2.2.below hb6))))
  have HL6 := Lib.hid (HL5.out.below hb6)
  have HB7 := Lib.hid (below_then HB6.out (Nat.le_refl _) hb6)
  obtain ⟨n5, hn5⟩ : ∃ n5, n5 = w5.heap.size := ⟨_, rfl⟩
  rw [← hn5] at hx6 ⊢
  have HX6 := Lib.hid (show C3 W6 n2 (.slice p1 q1 r1) (.slice p2 q2 r2) (.slice p3 q3 r3) ∧ C3 W6 (n2 + 1) (.slice p4 q4 r4) (.slice p5 q5 r5) (.slice p6 q6 r6) ∧ C3 W6 n5 (.slice p7 q7 r7) (.slice p8 q8 r8) (.slice p9 q9 r9) ∧ C3 W6 (n5 + 1) (.slice p10 q10 r10) (.slice p11 q11 r11) (.slice p12 q12 r12) ∧ A0 W6 n0 (⟨⟨at1, ak1, akey1, afin1, aval1, aex1, ⟨ap1, al1, aw1⟩, aov1⟩, .slice xo xn xc⟩ : Ro) from hx6)
  clear hW6 hb6 u6 v6 hn5 hx6 HL5 HX5 HB6
  go_wp2_with fail
  go_cut [11] (fun vv wx => MoreAt W6 (A ++ [(⟨⟨at1, ak1, akey1, afin1, aval1, aex1, ⟨ap1, al1, aw1⟩, aov1⟩, .slice xo xn xc⟩ : Ro)]) (na + 1) vv wx)
  case first =>
    have a0 := HX6.out.2.2.2.2
    have hlt0 := a0.lt
    have hSp : W6.cell? ⟨n0, 0, none⟩ = some (.int .i64 at1) ∧ W6.cell? ⟨n0, 1, none⟩ = some (.int .i64 ak1) ∧ W6.cell? ⟨n0, 2, none⟩ = some (.string akey1) ∧ W6.cell? ⟨n0, 3, none⟩ = some (.string afin1) ∧ W6.cell? ⟨n0, 4, none⟩ = some (.string aval1) ∧ W6.cell? ⟨n0, 5, none⟩ = some (.int .i64 aex1) ∧ W6.cell? ⟨n0, 6, none⟩ = some (.int .i64 ap1) ∧ W6.cell? ⟨n0, 7, none⟩ = some (.int .i64 al1) ∧ W6.cell? ⟨n0, 8, none⟩ = some (.int .i64 aw1) ∧ W6.cell? ⟨n0, 9, none⟩ = some (.slice xo xn xc) := ⟨a0.c0, a0.c1, a0.c2, a0.c3, a0.c4, a0.c5, a0.c6, a0.c7, a0.c8, a0.c9⟩
    have hS0 : W6.drew.cell? ⟨n0, 0, none⟩ = some (.int .i64 at1) ∧ W6.drew.cell? ⟨n0, 1, none⟩ = some (.int .i64 ak1) ∧ W6.drew.cell? ⟨n0, 2, none⟩ = some (.string akey1) ∧ W6.drew.cell? ⟨n0, 3, none⟩ = some (.string afin1) ∧ W6.drew.cell? ⟨n0, 4, none⟩ = some (.string aval1) ∧ W6.drew.cell? ⟨n0, 5, none⟩ = some (.int .i64 aex1) ∧ W6.drew.cell? ⟨n0, 6, none⟩ = some (.int .i64 ap1) ∧ W6.drew.cell? ⟨n0, 7, none⟩ = some (.int .i64 al1) ∧ W6.drew.cell? ⟨n0, 8, none⟩ = some (.int .i64 aw1) ∧ W6.drew.cell? ⟨n0, 9, none⟩ = some (.slice xo xn xc) := ⟨a0.c0, a0.c1, a0.c2, a0.c3, a0.c4, a0.c5, a0.c6, a0.c7, a0.c8, a0.c9⟩
    obtain ⟨e0, e1, e2, e3, e4, e5, e6, e7, e8, e9⟩ := hSp
    clear a0
    have BEM := Lib.hid (show RowKit.Below W6.heap.size W6 ((W6.alloc (.cells #[] 29)).alloc (.cells #[.int .i64 at1, .int .i64 ak1, .string akey1, .string afin1, .string aval1, .int .i64 aex1, .int .i64 ap1, .int .i64 al1, .int .i64 aw1, .slice xo xn xc] 29)).drew from (((Below.refl W6.heap.size W6).alloc (Nat.le_refl _) (.cells #[] 29)).alloc (by simp) (.cells #[.int .i64 at1, .int .i64 ak1, .string akey1, .string afin1, .string aval1, .int .i64 aex1, .int .i64 ap1, .int .i64 al1, .int .i64 aw1, .slice xo xn xc] 29)).drew)
    have BME := Lib.hid (show RowKit.Below W6.heap.size W6 ((W6.alloc (.cells #[.int .i64 at1, .int .i64 ak1, .string akey1, .string afin1, .string aval1, .int .i64 aex1, .int .i64 ap1, .int .i64 al1, .int .i64 aw1, .slice xo xn xc] 29)).alloc (.cells #[] 29)).drew from (((Below.refl W6.heap.size W6).alloc (Nat.le_refl _) (.cells #[.int .i64 at1, .int .i64 ak1, .string akey1, .string afin1, .string aval1, .int .i64 aex1, .int .i64 ap1, .int .i64 al1, .int .i64 aw1, .slice xo xn xc] 29)).alloc (by simp) (.cells #[] 29)).drew)
    have BE := Lib.hid (show RowKit.Below W6.heap.size W6 (W6.alloc (.cells #[] 29)).drew from ((Below.refl W6.heap.size W6).alloc (Nat.le_refl _) (.cells #[] 29)).drew)
    have OE := Lib.hid (show (W6.alloc (.cells #[] 29)).drew.ownsRow W6.heap.size 29 10 (.slice (some ⟨W6.heap.size, 0, none⟩) 0 0) 0 [] from (World.ownsRow_made W6 #[] 0 (Nat.le_refl _) (Nat.zero_le _) (by simp)).drew)
    have OEM := Lib.hid (show ((W6.alloc (.cells #[] 29)).alloc (.cells #[.int .i64 at1, .int .i64 ak1, .string akey1, .string afin1, .string aval1, .int .i64 aex1, .int .i64 ap1, .int .i64 al1, .int .i64 aw1, .slice xo xn xc] 29)).drew.ownsRow W6.heap.size 29 10 (.slice (some ⟨W6.heap.size, 0, none⟩) 0 0) 0 [] from ((World.ownsRow_made W6 #[] 0 (Nat.le_refl _) (Nat.zero_le _) (by simp)).alloc _).drew)
    have OME := Lib.hid (show ((W6.alloc (.cells #[.int .i64 at1, .int .i64 ak1, .string akey1, .string afin1, .string aval1, .int .i64 aex1, .int .i64 ap1, .int .i64 al1, .int .i64 aw1, .slice xo xn xc] 29)).alloc (.cells #[] 29)).drew.ownsRow W6.heap.size 29 10 (.slice (some ⟨W6.heap.size + 1, 0, none⟩) 0 0) 0 [] from (by have h := World.ownsRow_made (base := W6.heap.size) (e := 29) (size := 10) (W6.alloc (.cells #[.int .i64 at1, .int .i64 ak1, .string akey1, .string afin1, .string aval1, .int .i64 aex1, .int .i64 ap1, .int .i64 al1, .int .i64 aw1, .slice xo xn xc] 29)) #[] 0 (by simp) (Nat.zero_le _) (by simp); rw [World.size_alloc] at h; exact h.drew))
    have REM := Lib.hid (fun (w7 : World) (hgr : World.grownBy ((W6.alloc (.cells #[] 29)).alloc (.cells #[.int .i64 at1, .int .i64 ak1, .string akey1, .string afin1, .string aval1, .int .i64 aex1, .int .i64 ap1, .int .i64 al1, .int .i64 aw1, .slice xo xn xc] 29)).drew w7 (some W6.heap.size)) => show w7.heap[W6.heap.size + 1]? = some (.cells #[.int .i64 at1, .int .i64 ak1, .string akey1, .string afin1, .string aval1, .int .i64 aex1, .int .i64 ap1, .int .i64 al1, .int .i64 aw1, .slice xo xn xc] 29) from (hgr.block _ (by simp) (by simp)).trans (by have h := heap_alloc_new (W6.alloc (.cells #[] 29)) (.cells #[.int .i64 at1, .int .i64 ak1, .string akey1, .string afin1, .string aval1, .int .i64 aex1, .int .i64 ap1, .int .i64 al1, .int .i64 aw1, .slice xo xn xc] 29); rw [World.size_alloc] at h; exact h))
    have RME := Lib.hid (fun (w7 : World) (hgr : World.grownBy ((W6.alloc (.cells #[.int .i64 at1, .int .i64 ak1, .string akey1, .string afin1, .string aval1, .int .i64 aex1, .int .i64 ap1, .int .i64 al1, .int .i64 aw1, .slice xo xn xc] 29)).alloc (.cells #[] 29)).drew w7 (some (W6.heap.size + 1))) => show w7.heap[W6.heap.size]? = some (.cells #[.int .i64 at1, .int .i64 ak1, .string akey1, .string afin1, .string aval1, .int .i64 aex1, .int .i64 ap1, .int .i64 al1, .int .i64 aw1, .slice xo xn xc] 29) from (hgr.block _ (by simp; omega) (by simp)).trans ((Below.heap_alloc (W6.alloc (.cells #[.int .i64 at1, .int .i64 ak1, .string akey1, .string afin1, .string aval1, .int .i64 aex1, .int .i64 ap1, .int .i64 al1, .int .i64 aw1, .slice xo xn xc] 29)) (.cells #[] 29) _ (by simp)).trans (heap_alloc_new W6 (.cells #[.int .i64 at1, .int .i64 ak1, .string akey1, .string afin1, .string aval1, .int .i64 aex1, .int .i64 ap1, .int .i64 al1, .int .i64 aw1, .slice xo xn xc] 29))))
    go_region_held3 (fun w' => w'.cell? ⟨n0, 0, none⟩ = some (.int .i64 at1) ∧ w'.cell? ⟨n0, 1, none⟩ = some (.int .i64 ak1) ∧ w'.cell? ⟨n0, 2, none⟩ = some (.string akey1) ∧ w'.cell? ⟨n0, 3, none⟩ = some (.string afin1) ∧ w'.cell? ⟨n0, 4, none⟩ = some (.string aval1) ∧ w'.cell? ⟨n0, 5, none⟩ = some (.int .i64 aex1) ∧ w'.cell? ⟨n0, 6, none⟩ = some (.int .i64 ap1) ∧ w'.cell? ⟨n0, 7, none⟩ = some (.int .i64 al1) ∧ w'.cell? ⟨n0, 8, none⟩ = some (.int .i64 aw1) ∧ w'.cell? ⟨n0, 9, none⟩ = some (.slice xo xn xc)) (first | with_reducible assumption | go_keep | (go_split_ands; go_split_ands; simp_all [World.cell?_alloc])) (first
      | (have hcheck := HO7; clear hcheck; refine step_append_rows (by rfl) (.tmp 34) (.tmp 36) (by rfl) W6.heap.size v7 (0 + na) _ (by rfl) (HO7.out.alloc _) (some ⟨w7.heap.size, 0, none⟩) 1 1 [(⟨⟨at1, ak1, akey1, afin1, aval1, aex1, ⟨ap1, al1, aw1⟩, aov1⟩, .slice xo xn xc⟩ : Ro)] (by rfl) (HROW.out _ (below_then HB7.out (Nat.le_refl _) (HB8.out.alloc HB8.out.size (.cells #[.int .i64 at1, .int .i64 ak1, .string akey1, .string afin1, .string aval1, .int .i64 aex1, .int .i64 ap1, .int .i64 al1, .int .i64 aw1, .slice xo xn xc] 29))) _ (heap_alloc_new w7 _)) (by omega) ((HB8.out.alloc HB8.out.size (.cells #[.int .i64 at1, .int .i64 ak1, .string akey1, .string afin1, .string aval1, .int .i64 aex1, .int .i64 ap1, .int .i64 al1, .int .i64 aw1, .slice xo xn xc] 29))).size (fun v8 w8 hown hgr => ?_); have hb8 : RowKit.Below W6.heap.size W6 w8 := ((HB8.out.alloc HB8.out.size (.cells #[.int .i64 at1, .int .i64 ak1, .string akey1, .string afin1, .string aval1, .int .i64 aex1, .int .i64 ap1, .int .i64 al1, .int .i64 aw1, .slice xo xn xc] 29))).grown hgr ((HB8.out.alloc HB8.out.size (.cells #[.int .i64 at1, .int .i64 ak1, .string akey1, .string afin1, .string aval1, .int .i64 aex1, .int .i64 ap1, .int .i64 al1, .int .i64 aw1, .slice xo xn xc] 29))).size (fun k hk => (HO7.out.lt k hk).1); have HO8 := Lib.hid hown; have HB9 := Lib.hid hb8; have a0 := HX6.out.2.2.2.2.below hb8; have hS2 : w8.cell? ⟨n0, 0, none⟩ = some (.int .i64 at1) ∧ w8.cell? ⟨n0, 1, none⟩ = some (.int .i64 ak1) ∧ w8.cell? ⟨n0, 2, none⟩ = some (.string akey1) ∧ w8.cell? ⟨n0, 3, none⟩ = some (.string afin1) ∧ w8.cell? ⟨n0, 4, none⟩ = some (.string aval1) ∧ w8.cell? ⟨n0, 5, none⟩ = some (.int .i64 aex1) ∧ w8.cell? ⟨n0, 6, none⟩ = some (.int .i64 ap1) ∧ w8.cell? ⟨n0, 7, none⟩ = some (.int .i64 al1) ∧ w8.cell? ⟨n0, 8, none⟩ = some (.int .i64 aw1) ∧ w8.cell? ⟨n0, 9, none⟩ = some (.slice xo xn xc) := ⟨a0.c0, a0.c1, a0.c2, a0.c3, a0.c4, a0.c5, a0.c6, a0.c7, a0.c8, a0.c9⟩; clear hown hgr hb8 a0)
      | (have hcheck := HMB; clear hcheck; have hcheck := HO7; clear hcheck; refine step_append_rows (by rfl) (.tmp 34) (.tmp 36) (by rfl) W6.heap.size v7 (0 + na) _ (by rfl) (HO7.out) (some ⟨W6.heap.size + 1, 0, none⟩) 1 1 [(⟨⟨at1, ak1, akey1, afin1, aval1, aex1, ⟨ap1, al1, aw1⟩, aov1⟩, .slice xo xn xc⟩ : Ro)] (by rfl) (HROW.out _ (below_then HB7.out (Nat.le_refl _) HB8.out) _ HMB.out) (by omega) (HB8.out).size (fun v8 w8 hown hgr => ?_); have hb8 : RowKit.Below W6.heap.size W6 w8 := (HB8.out).grown hgr (HB8.out).size (fun k hk => (HO7.out.lt k hk).1); have HO8 := Lib.hid hown; have HB9 := Lib.hid hb8; have a0 := HX6.out.2.2.2.2.below hb8; have hS2 : w8.cell? ⟨n0, 0, none⟩ = some (.int .i64 at1) ∧ w8.cell? ⟨n0, 1, none⟩ = some (.int .i64 ak1) ∧ w8.cell? ⟨n0, 2, none⟩ = some (.string akey1) ∧ w8.cell? ⟨n0, 3, none⟩ = some (.string afin1) ∧ w8.cell? ⟨n0, 4, none⟩ = some (.string aval1) ∧ w8.cell? ⟨n0, 5, none⟩ = some (.int .i64 aex1) ∧ w8.cell? ⟨n0, 6, none⟩ = some (.int .i64 ap1) ∧ w8.cell? ⟨n0, 7, none⟩ = some (.int .i64 al1) ∧ w8.cell? ⟨n0, 8, none⟩ = some (.int .i64 aw1) ∧ w8.cell? ⟨n0, 9, none⟩ = some (.slice xo xn xc) := ⟨a0.c0, a0.c1, a0.c2, a0.c3, a0.c4, a0.c5, a0.c6, a0.c7, a0.c8, a0.c9⟩; clear hown hgr hb8 a0)
      | (have hcheck := HMB; clear hcheck; have hcheck := HO7; clear hcheck; refine step_append_rows (by rfl) (.tmp 34) (.tmp 36) (by rfl) W6.heap.size v7 (0 + na) _ (by rfl) (HO7.out) (some ⟨W6.heap.size, 0, none⟩) 1 1 [(⟨⟨at1, ak1, akey1, afin1, aval1, aex1, ⟨ap1, al1, aw1⟩, aov1⟩, .slice xo xn xc⟩ : Ro)] (by rfl) (HROW.out _ (below_then HB7.out (Nat.le_refl _) HB8.out) _ HMB.out) (by omega) (HB8.out).size (fun v8 w8 hown hgr => ?_); have hb8 : RowKit.Below W6.heap.size W6 w8 := (HB8.out).grown hgr (HB8.out).size (fun k hk => (HO7.out.lt k hk).1); have HO8 := Lib.hid hown; have HB9 := Lib.hid hb8; have a0 := HX6.out.2.2.2.2.below hb8; have hS2 : w8.cell? ⟨n0, 0, none⟩ = some (.int .i64 at1) ∧ w8.cell? ⟨n0, 1, none⟩ = some (.int .i64 ak1) ∧ w8.cell? ⟨n0, 2, none⟩ = some (.string akey1) ∧ w8.cell? ⟨n0, 3, none⟩ = some (.string afin1) ∧ w8.cell? ⟨n0, 4, none⟩ = some (.string aval1) ∧ w8.cell? ⟨n0, 5, none⟩ = some (.int .i64 aex1) ∧ w8.cell? ⟨n0, 6, none⟩ = some (.int .i64 ap1) ∧ w8.cell? ⟨n0, 7, none⟩ = some (.int .i64 al1) ∧ w8.cell? ⟨n0, 8, none⟩ = some (.int .i64 aw1) ∧ w8.cell? ⟨n0, 9, none⟩ = some (.slice xo xn xc) := ⟨a0.c0, a0.c1, a0.c2, a0.c3, a0.c4, a0.c5, a0.c6, a0.c7, a0.c8, a0.c9⟩; clear hown hgr hb8 a0)
      | ((fail_if_success have := HO7); refine step_append_rows (by rfl) (.tmp 32) (.tmp 33) (by rfl) W6.heap.size (.slice (some ⟨W6.heap.size, 0, none⟩) 0 0) 0 [] (by rfl) (OEM.out) ao na ac A (by rfl) (HA.out.below (below_then HB7.out (Nat.le_refl _) (BEM.out))) (by omega) (BEM.out).size (fun v7 w7 hown hgr => ?_); have hb7 : RowKit.Below W6.heap.size W6 w7 := (BEM.out).grown hgr (BEM.out).size (fun k hk => by (first | (simp [Value.ownBlock] at hk; omega))); have HO7 := Lib.hid hown; have HB8 := Lib.hid hb7; have HMB := Lib.hid (REM.out _ hgr); have a0 := HX6.out.2.2.2.2.below hb7; have hS1 : w7.cell? ⟨n0, 0, none⟩ = some (.int .i64 at1) ∧ w7.cell? ⟨n0, 1, none⟩ = some (.int .i64 ak1) ∧ w7.cell? ⟨n0, 2, none⟩ = some (.string akey1) ∧ w7.cell? ⟨n0, 3, none⟩ = some (.string afin1) ∧ w7.cell? ⟨n0, 4, none⟩ = some (.string aval1) ∧ w7.cell? ⟨n0, 5, none⟩ = some (.int .i64 aex1) ∧ w7.cell? ⟨n0, 6, none⟩ = some (.int .i64 ap1) ∧ w7.cell? ⟨n0, 7, none⟩ = some (.int .i64 al1) ∧ w7.cell? ⟨n0, 8, none⟩ = some (.int .i64 aw1) ∧ w7.cell? ⟨n0, 9, none⟩ = some (.slice xo xn xc) := ⟨a0.c0, a0.c1, a0.c2, a0.c3, a0.c4, a0.c5, a0.c6, a0.c7, a0.c8, a0.c9⟩; clear hown hgr hb7 a0)
      | ((fail_if_success have := HO7); refine step_append_rows (by rfl) (.tmp 32) (.tmp 33) (by rfl) W6.heap.size (.slice (some ⟨W6.heap.size + 1, 0, none⟩) 0 0) 0 [] (by rfl) (OME.out) ao na ac A (by rfl) (HA.out.below (below_then HB7.out (Nat.le_refl _) (BME.out))) (by omega) (BME.out).size (fun v7 w7 hown hgr => ?_); have hb7 : RowKit.Below W6.heap.size W6 w7 := (BME.out).grown hgr (BME.out).size (fun k hk => by (first | (simp [Value.ownBlock] at hk; omega))); have HO7 := Lib.hid hown; have HB8 := Lib.hid hb7; have HMB := Lib.hid (RME.out _ hgr); have a0 := HX6.out.2.2.2.2.below hb7; have hS1 : w7.cell? ⟨n0, 0, none⟩ = some (.int .i64 at1) ∧ w7.cell? ⟨n0, 1, none⟩ = some (.int .i64 ak1) ∧ w7.cell? ⟨n0, 2, none⟩ = some (.string akey1) ∧ w7.cell? ⟨n0, 3, none⟩ = some (.string afin1) ∧ w7.cell? ⟨n0, 4, none⟩ = some (.string aval1) ∧ w7.cell? ⟨n0, 5, none⟩ = some (.int .i64 aex1) ∧ w7.cell? ⟨n0, 6, none⟩ = some (.int .i64 ap1) ∧ w7.cell? ⟨n0, 7, none⟩ = some (.int .i64 al1) ∧ w7.cell? ⟨n0, 8, none⟩ = some (.int .i64 aw1) ∧ w7.cell? ⟨n0, 9, none⟩ = some (.slice xo xn xc) := ⟨a0.c0, a0.c1, a0.c2, a0.c3, a0.c4, a0.c5, a0.c6, a0.c7, a0.c8, a0.c9⟩; clear hown hgr hb7 a0)
      | ((fail_if_success have := HO7); refine step_append_rows (by rfl) (.tmp 32) (.tmp 33) (by rfl) W6.heap.size (.slice (some ⟨W6.heap.size, 0, none⟩) 0 0) 0 [] (by rfl) (OE.out) ao na ac A (by rfl) (HA.out.below (below_then HB7.out (Nat.le_refl _) (BE.out))) (by omega) (BE.out).size (fun v7 w7 hown hgr => ?_); have hb7 : RowKit.Below W6.heap.size W6 w7 := (BE.out).grown hgr (BE.out).size (fun k hk => by (first | (simp [Value.ownBlock] at hk; omega))); have HO7 := Lib.hid hown; have HB8 := Lib.hid hb7; skip; have a0 := HX6.out.2.2.2.2.below hb7; have hS1 : w7.cell? ⟨n0, 0, none⟩ = some (.int .i64 at1) ∧ w7.cell? ⟨n0, 1, none⟩ = some (.int .i64 ak1) ∧ w7.cell? ⟨n0, 2, none⟩ = some (.string akey1) ∧ w7.cell? ⟨n0, 3, none⟩ = some (.string afin1) ∧ w7.cell? ⟨n0, 4, none⟩ = some (.string aval1) ∧ w7.cell? ⟨n0, 5, none⟩ = some (.int .i64 aex1) ∧ w7.cell? ⟨n0, 6, none⟩ = some (.int .i64 ap1) ∧ w7.cell? ⟨n0, 7, none⟩ = some (.int .i64 al1) ∧ w7.cell? ⟨n0, 8, none⟩ = some (.int .i64 aw1) ∧ w7.cell? ⟨n0, 9, none⟩ = some (.slice xo xn xc) := ⟨a0.c0, a0.c1, a0.c2, a0.c3, a0.c4, a0.c5, a0.c6, a0.c7, a0.c8, a0.c9⟩; clear hown hgr hb7 a0))
    all_goals
      go_wp2_with fail
      go_meet
      obtain ⟨vo8, vc8, rfl⟩ := own_slice HO8.out
      have hown := HO8.out
      have hall : ([] : List Value) ++ A.flatMap enM ++ [(⟨⟨at1, ak1, akey1, afin1, aval1, aex1, ⟨ap1, al1, aw1⟩, aov1⟩, .slice xo xn xc⟩ : Ro)].flatMap enM = (A ++ [(⟨⟨at1, ak1, akey1, afin1, aval1, aex1, ⟨ap1, al1, aw1⟩, aov1⟩, .slice xo xn xc⟩ : Ro)]).flatMap enM := by simp
      have hlen : 0 + na + 1 = (A ++ [(⟨⟨at1, ak1, akey1, afin1, aval1, aex1, ⟨ap1, al1, aw1⟩, aov1⟩, .slice xo xn xc⟩ : Ro)]).length := by have := HNN.out.1; simp; omega
      rw [hall, hlen] at hown
      refine ⟨vo8, vc8, by rw [Nat.zero_add], ?_, HB9.out⟩
      have hb := below_then HB7.out (Nat.le_refl _) HB9.out
      rw [show na + 1 = 0 + na + 1 by omega, hlen]
      exact ⟨Lst.owned enM_len (by decide) rfl (by rw [← hlen]; rw [hlen]; exact hown), fun q hq => by
        rcases List.mem_append.1 hq with h | h
        · exact (HA.out.below hb).over q h
        · rw [List.mem_singleton.1 h]; exact HM.out.below hb⟩
  case rest =>
    obtain ⟨vo8, vc8, rfl, hmr, hb8⟩ := hcut
    obtain ⟨W8, hW8⟩ : ∃ W8, W8 = wc := ⟨_, rfl⟩
    rw [← hW8] at hmr hb8 ⊢
    clear hW8
    have HO8 := Lib.hid hmr
    have HX8 := Lib.hid (show C3 W8 n2 (.slice p1 q1 r1) (.slice p2 q2 r2) (.slice p3 q3 r3) ∧ C3 W8 (n2 + 1) (.slice p4 q4 r4) (.slice p5 q5 r5) (.slice p6 q6 r6) ∧ C3 W8 n5 (.slice p7 q7 r7) (.slice p8 q8 r8) (.slice p9 q9 r9) ∧ C3 W8 (n5 + 1) (.slice p10 q10 r10) (.slice p11 q11 r11) (.slice p12 q12 r12) ∧ A0 W8 n0 (⟨⟨at1, ak1, akey1, afin1, aval1, aex1, ⟨ap1, al1, aw1⟩, aov1⟩, .slice xo xn xc⟩ : Ro) from ⟨HX6.out.1.below hb8, HX6.out.2.1.below hb8, HX6.out.2.2.1.below hb8, HX6.out.2.2.2.1.below hb8, HX6.out.2.2.2.2.below hb8⟩)
    have HL8 := Lib.hid (HL6.out.below hb8)
    have HB8 := Lib.hid (below_then HB7.out (Nat.le_refl _) hb8)
    clear hmr hb8 HX6 HL6 HB7
    have HMx := Lib.hid (show ∀ W, RowKit.Below W8.heap.size W8 W → MRow W (.slice ao na ac) A ∧ MRow W (.slice bo nb bc) B from fun W h => ⟨HA.out.below (below_then HB8.out (Nat.le_refl _) h), HB.out.below (below_then HB8.out (Nat.le_refl _) h)⟩)
    have hM0 := (Below.refl W8.heap.size W8).alloc (Nat.le_refl _) (.cells #[] 29)
    have HM0 := Lib.hid hM0
    clear hM0
    go_wp2_with (at_builtin; refine wpList_append_rows rfl (.tmp 38) (.tmp 39) rfl W8.heap.size (.slice (some ⟨W8.heap.size, 0, none⟩) 0 0) 0 [] rfl (World.ownsRow_made W8 #[] 0 (Nat.le_refl _) (Nat.zero_le _) (by simp)) ao na ac A rfl (HMx.out _ HM0.out).1 (by omega) (by simp) ?_)
    intro v9 w9 hown hgr
    have hb9 := HM0.out.grown hgr (by simp) (fun k hk => by simp [Value.ownBlock] at hk; omega)
    have HO9 := Lib.hid hown
    have HB9 := Lib.hid hb9
    clear hown hgr hb9
    go_wp2_with (at_builtin; refine wpList_append_rows rfl (.tmp 40) (.tmp 41) rfl W8.heap.size v9 na (A.flatMap enM) rfl HO9.out bo nb bc B rfl (HMx.out _ HB9.out).2 (by omega) HB9.out.size ?_)
    intro v10 w10 hown hgr
    have hb10 := HB9.out.grown hgr HB9.out.size (fun k hk => (HO9.out.lt k hk).1)
    obtain ⟨vo9, vc9, rfl⟩ := own_slice hown
    have hlen : na + nb = (A ++ B).length := by have := HNN.out; simp; omega
    have hmr : MRow w10 (.slice vo9 (na + nb) vc9) (A ++ B) := by
      rw [hlen]
      exact ⟨Lst.owned enM_len (by decide) rfl (by rw [List.flatMap_append, ← hlen]; exact hown), fun q hq => by
        rcases List.mem_append.1 hq with h | h
        · exact (HMx.out _ hb10).1.over q h
        · exact (HMx.out _ hb10).2.over q h⟩
    have HH0 := Lib.hid (HL8.out.below hb10)
    have RR0 := Lib.hid (HasR.cons hmr (HasR.cons (HO8.out.below hb10) (HasR.nil w10)))
    have BB0 := Lib.hid (below_then HB8.out (Nat.le_refl _) hb10)
    have XX0 := Lib.hid (show C3 w10 n2 (.slice p1 q1 r1) (.slice p2 q2 r2) (.slice p3 q3 r3) ∧ C3 w10 (n2 + 1) (.slice p4 q4 r4) (.slice p5 q5 r5) (.slice p6 q6 r6) ∧ C3 w10 n5 (.slice p7 q7 r7) (.slice p8 q8 r8) (.slice p9 q9 r9) ∧ C3 w10 (n5 + 1) (.slice p10 q10 r10) (.slice p11 q11 r11) (.slice p12 q12 r12) ∧ A0 w10 n0 (⟨⟨at1, ak1, akey1, afin1, aval1, aex1, ⟨ap1, al1, aw1⟩, aov1⟩, .slice xo xn xc⟩ : Ro) from ⟨HX8.out.1.below hb10, HX8.out.2.1.below hb10, HX8.out.2.2.1.below hb10, HX8.out.2.2.2.1.below hb10, HX8.out.2.2.2.2.below hb10⟩)
    have HEx := Lib.hid (left_one HRx.out.1 HRu.out.1)
    have HEy := Lib.hid (left_one HRy.out.1 HRv.out.1)
    clear hown hgr hb10 hmr hlen HO8 HX8 HL8 HB8 HMx HO9 HB9 HM0
    obtain ⟨⟨-, s1, s2, s3, -⟩, ⟨-, s4, s5, s6, -⟩, ⟨-, s7, s8, s9, -⟩, ⟨-, s10, s11, s12, -⟩, ⟨-, c0, c1, c2, c3, c4, c5, c6, c7, c8, c9⟩⟩ := XX0.out
    simp only [] at c0 c1 c2 c3 c4 c5 c6 c7 c8 c9
    go_wp2_with fail
    clear s1 s2 s3 s4 s5 s6 s7 s8 s9 s10 s11 s12 c0 c1 c2 c3 c4 c5 c6 c7 c8 c9
    refine (is_any (.slice p1 q1 r1) (.slice p2 q2 r2) (.slice p3 q3 r3) (.slice p7 q7 r7) (.slice p8 q8 r8) (.slice p9 q9 r9) x u true _ ⟨fun _ => HEx.out, fun _ => rfl⟩ (HH0.out.get (by simp)) (HH0.out.get (by simp)) (okc_small HRx.out.2) HRu.out.2).mono ?_
    rintro e y1 ⟨rfl, hb⟩
    have HH1 := Lib.hid (HH0.out.below hb)
    have RR1 := Lib.hid (RR0.out.below hb)
    have BB1 := Lib.hid (below_then BB0.out (Nat.le_refl _) hb)
    have XX1 := Lib.hid (show C3 y1 n2 (.slice p1 q1 r1) (.slice p2 q2 r2) (.slice p3 q3 r3) ∧ C3 y1 (n2 + 1) (.slice p4 q4 r4) (.slice p5 q5 r5) (.slice p6 q6 r6) ∧ C3 y1 n5 (.slice p7 q7 r7) (.slice p8 q8 r8) (.slice p9 q9 r9) ∧ C3 y1 (n5 + 1) (.slice p10 q10 r10) (.slice p11 q11 r11) (.slice p12 q12 r12) ∧ A0 y1 n0 (⟨⟨at1, ak1, akey1, afin1, aval1, aex1, ⟨ap1, al1, aw1⟩, aov1⟩, .slice xo xn xc⟩ : Ro) from ⟨XX0.out.1.below hb, XX0.out.2.1.below hb, XX0.out.2.2.1.below hb, XX0.out.2.2.2.1.below hb, XX0.out.2.2.2.2.below hb⟩)
    clear hb HH0 RR0 BB0 XX0
    obtain ⟨⟨-, s1, s2, s3, -⟩, ⟨-, s4, s5, s6, -⟩, ⟨-, s7, s8, s9, -⟩, ⟨-, s10, s11, s12, -⟩, ⟨-, c0, c1, c2, c3, c4, c5, c6, c7, c8, c9⟩⟩ := XX1.out
    simp only [] at c0 c1 c2 c3 c4 c5 c6 c7 c8 c9
    go_wp2_with fail
    clear s1 s2 s3 s4 s5 s6 s7 s8 s9 s10 s11 s12 c0 c1 c2 c3 c4 c5 c6 c7 c8 c9
    refine (is_any (.slice p4 q4 r4) (.slice p5 q5 r5) (.slice p6 q6 r6) (.slice p10 q10 r10) (.slice p11 q11 r11) (.slice p12 q12 r12) y v true _ ⟨fun _ => HEy.out, fun _ => rfl⟩ (HH1.out.get (by simp)) (HH1.out.get (by simp)) (okc_small HRy.out.2) HRv.out.2).mono ?_
    rintro e y2 ⟨rfl, hb⟩
    have HH2 := Lib.hid (HH1.out.below hb)
    have RR2 := Lib.hid (RR1.out.below hb)
    have BB2 := Lib.hid (below_then BB1.out (Nat.le_refl _) hb)
    have XX2 := Lib.hid (show C3 y2 n2 (.slice p1 q1 r1) (.slice p2 q2 r2) (.slice p3 q3 r3) ∧ C3 y2 (n2 + 1) (.slice p4 q4 r4) (.slice p5 q5 r5) (.slice p6 q6 r6) ∧ C3 y2 n5 (.slice p7 q7 r7) (.slice p8 q8 r8) (.slice p9 q9 r9) ∧ C3 y2 (n5 + 1) (.slice p10 q10 r10) (.slice p11 q11 r11) (.slice p12 q12 r12) ∧ A0 y2 n0 (⟨⟨at1, ak1, akey1, afin1, aval1, aex1, ⟨ap1, al1, aw1⟩, aov1⟩, .slice xo xn xc⟩ : Ro) from ⟨XX1.out.1.below hb, XX1.out.2.1.below hb, XX1.out.2.2.1.below hb, XX1.out.2.2.2.1.below hb, XX1.out.2.2.2.2.below hb⟩)
    clear hb HH1 RR1 BB1 XX1
    obtain ⟨⟨-, s1, s2, s3, -⟩, ⟨-, s4, s5, s6, -⟩, ⟨-, s7, s8, s9, -⟩, ⟨-, s10, s11, s12, -⟩, ⟨-, c0, c1, c2, c3, c4, c5, c6, c7, c8, c9⟩⟩ := XX2.out
    simp only [] at c0 c1 c2 c3 c4 c5 c6 c7 c8 c9
    go_wp2_with fail
    clear s1 s2 s3 s4 s5 s6 s7 s8 s9 s10 s11 s12 c0 c1 c2 c3 c4 c5 c6 c7 c8 c9
    refine (HADD.out _ BB2.out HS.out.2.2 (.slice p1 q1 r1) (.slice p2 q2 r2) (.slice p3 q3 r3) x (Fits (A.map (·.1))) A.length (HH2.out.get (by simp)) HRx.out.1 HRx.out.2 (by have := HNN.out.1; omega)).mono ?_
    rintro e y3 ⟨a5, b5, d5, z, rfl, hl, hr, ho, hb⟩
    have HRz := Lib.hid (And.intro hr ho)
    have HH3 := Lib.hid (HasC.cons hl (HH2.out.below hb))
    have RR3 := Lib.hid (RR2.out.below hb)
    have BB3 := Lib.hid (below_then BB2.out (Nat.le_refl _) hb)
    have XX3 := Lib.hid (show C3 y3 n2 (.slice p1 q1 r1) (.slice p2 q2 r2) (.slice p3 q3 r3) ∧ C3 y3 (n2 + 1) (.slice p4 q4 r4) (.slice p5 q5 r5) (.slice p6 q6 r6) ∧ C3 y3 n5 (.slice p7 q7 r7) (.slice p8 q8 r8) (.slice p9 q9 r9) ∧ C3 y3 (n5 + 1) (.slice p10 q10 r10) (.slice p11 q11 r11) (.slice p12 q12 r12) ∧ A0 y3 n0 (⟨⟨at1, ak1, akey1, afin1, aval1, aex1, ⟨ap1, al1, aw1⟩, aov1⟩, .slice xo xn xc⟩ : Ro) from ⟨XX2.out.1.below hb, XX2.out.2.1.below hb, XX2.out.2.2.1.below hb, XX2.out.2.2.2.1.below hb, XX2.out.2.2.2.2.below hb⟩)
    clear hb HH2 RR2 BB2 XX2 hl hr ho
    obtain ⟨⟨-, s1, s2, s3, -⟩, ⟨-, s4, s5, s6, -⟩, ⟨-, s7, s8, s9, -⟩, ⟨-, s10, s11, s12, -⟩, ⟨-, c0, c1, c2, c3, c4, c5, c6, c7, c8, c9⟩⟩ := XX3.out
    simp only [] at c0 c1 c2 c3 c4 c5 c6 c7 c8 c9
    go_wp2_with fail
    clear s1 s2 s3 s4 s5 s6 s7 s8 s9 s10 s11 s12 c0 c1 c2 c3 c4 c5 c6 c7 c8 c9
    refine (refof_any (.slice vo8 (na + 1) vc8) (A ++ [(⟨⟨at1, ak1, akey1, afin1, aval1, aex1, ⟨ap1, al1, aw1⟩, aov1⟩, .slice xo xn xc⟩ : Ro)]) _ (HT.out.below BB3.out) (RR3.out.get (by simp)) (fun q hq => (List.mem_append.1 hq).elim (HS.out.1 q) (fun h => by rw [List.mem_singleton.1 h]; exact HS.out.2.2)) (by have := HNN.out.1; simp; omega)).mono ?_
    rintro e y4 ⟨a6, b6, d6, z2, rfl, hl, hr, ho, hb⟩
    have HRz2 := Lib.hid (And.intro hr ho)
    have HH4 := Lib.hid (HasC.cons hl (HH3.out.below hb))
    have RR4 := Lib.hid (RR3.out.below hb)
    have BB4 := Lib.hid (below_then BB3.out (Nat.le_refl _) hb)
    have XX4 := Lib.hid (show C3 y4 n2 (.slice p1 q1 r1) (.slice p2 q2 r2) (.slice p3 q3 r3) ∧ C3 y4 (n2 + 1) (.slice p4 q4 r4) (.slice p5 q5 r5) (.slice p6 q6 r6) ∧ C3 y4 n5 (.slice p7 q7 r7) (.slice p8 q8 r8) (.slice p9 q9 r9) ∧ C3 y4 (n5 + 1) (.slice p10 q10 r10) (.slice p11 q11 r11) (.slice p12 q12 r12) ∧ A0 y4 n0 (⟨⟨at1, ak1, akey1, afin1, aval1, aex1, ⟨ap1, al1, aw1⟩, aov1⟩, .slice xo xn xc⟩ : Ro) from ⟨XX3.out.1.below hb, XX3.out.2.1.below hb, XX3.out.2.2.1.below hb, XX3.out.2.2.2.1.below hb, XX3.out.2.2.2.2.below hb⟩)
    clear hb HH3 RR3 BB3 XX3 hl hr ho
    obtain ⟨⟨-, s1, s2, s3, -⟩, ⟨-, s4, s5, s6, -⟩, ⟨-, s7, s8, s9, -⟩, ⟨-, s10, s11, s12, -⟩, ⟨-, c0, c1, c2, c3, c4, c5, c6, c7, c8, c9⟩⟩ := XX4.out
    simp only [] at c0 c1 c2 c3 c4 c5 c6 c7 c8 c9
    go_wp2_with fail
    clear s1 s2 s3 s4 s5 s6 s7 s8 s9 s10 s11 s12 c0 c1 c2 c3 c4 c5 c6 c7 c8 c9
    refine (is_any a5 b5 d5 a6 b6 d6 z z2 true _ ⟨fun _ => left_add HRz.out.1 HRz2.out.1, fun _ => rfl⟩ (HH4.out.get (by simp)) (HH4.out.get (by simp)) (okc_small HRz.out.2) HRz2.out.2).mono ?_
    rintro e y5 ⟨rfl, hb⟩
    have HH5 := Lib.hid (HH4.out.below hb)
    have RR5 := Lib.hid (RR4.out.below hb)
    have BB5 := Lib.hid (below_then BB4.out (Nat.le_refl _) hb)
    have XX5 := Lib.hid (show C3 y5 n2 (.slice p1 q1 r1) (.slice p2 q2 r2) (.slice p3 q3 r3) ∧ C3 y5 (n2 + 1) (.slice p4 q4 r4) (.slice p5 q5 r5) (.slice p6 q6 r6) ∧ C3 y5 n5 (.slice p7 q7 r7) (.slice p8 q8 r8) (.slice p9 q9 r9) ∧ C3 y5 (n5 + 1) (.slice p10 q10 r10) (.slice p11 q11 r11) (.slice p12 q12 r12) ∧ A0 y5 n0 (⟨⟨at1, ak1, akey1, afin1, aval1, aex1, ⟨ap1, al1, aw1⟩, aov1⟩, .slice xo xn xc⟩ : Ro) from ⟨XX4.out.1.below hb, XX4.out.2.1.below hb, XX4.out.2.2.1.below hb, XX4.out.2.2.2.1.below hb, XX4.out.2.2.2.2.below hb⟩)
    clear hb HH4 RR4 BB4 XX4
    obtain ⟨⟨-, s1, s2, s3, -⟩, ⟨-, s4, s5, s6, -⟩, ⟨-, s7, s8, s9, -⟩, ⟨-, s10, s11, s12, -⟩, ⟨-, c0, c1, c2, c3, c4, c5, c6, c7, c8, c9⟩⟩ := XX5.out
    simp only [] at c0 c1 c2 c3 c4 c5 c6 c7 c8 c9
    go_wp2_with fail
    clear s1 s2 s3 s4 s5 s6 s7 s8 s9 s10 s11 s12 c0 c1 c2 c3 c4 c5 c6 c7 c8 c9
    refine (join_any (.slice p1 q1 r1) (.slice p2 q2 r2) (.slice p3 q3 r3) (.slice p4 q4 r4) (.slice p5 q5 r5) (.slice p6 q6 r6) x y _ _ A.length B.length _ (HT.out.below BB5.out) (HH5.out.get (by simp)) HRx.out.1 HRx.out.2 (HH5.out.get (by simp)) HRy.out.1 HRy.out.2 (by have := HNN.out; omega)).mono ?_
    rintro e y6 ⟨a7, b7, d7, z3, rfl, hl, hr, ho, hb⟩
    have HRz3 := Lib.hid (And.intro hr ho)
    have HH6 := Lib.hid (HasC.cons hl (HH5.out.below hb))
    have RR6 := Lib.hid (RR5.out.below hb)
    have BB6 := Lib.hid (below_then BB5.out (Nat.le_refl _) hb)
    have XX6 := Lib.hid (show C3 y6 n2 (.slice p1 q1 r1) (.slice p2 q2 r2) (.slice p3 q3 r3) ∧ C3 y6 (n2 + 1) (.slice p4 q4 r4) (.slice p5 q5 r5) (.slice p6 q6 r6) ∧ C3 y6 n5 (.slice p7 q7 r7) (.slice p8 q8 r8) (.slice p9 q9 r9) ∧ C3 y6 (n5 + 1) (.slice p10 q10 r10) (.slice p11 q11 r11) (.slice p12 q12 r12) ∧ A0 y6 n0 (⟨⟨at1, ak1, akey1, afin1, aval1, aex1, ⟨ap1, al1, aw1⟩, aov1⟩, .slice xo xn xc⟩ : Ro) from ⟨XX5.out.1.below hb, XX5.out.2.1.below hb, XX5.out.2.2.1.below hb, XX5.out.2.2.2.1.below hb, XX5.out.2.2.2.2.below hb⟩)
    clear hb HH5 RR5 BB5 XX5 hl hr ho
    obtain ⟨⟨-, s1, s2, s3, -⟩, ⟨-, s4, s5, s6, -⟩, ⟨-, s7, s8, s9, -⟩, ⟨-, s10, s11, s12, -⟩, ⟨-, c0, c1, c2, c3, c4, c5, c6, c7, c8, c9⟩⟩ := XX6.out
    simp only [] at c0 c1 c2 c3 c4 c5 c6 c7 c8 c9
    go_wp2_with fail
    clear s1 s2 s3 s4 s5 s6 s7 s8 s9 s10 s11 s12 c0 c1 c2 c3 c4 c5 c6 c7 c8 c9
    refine (refof_any (.slice vo9 (na + nb) vc9) (A ++ B) _ (HT.out.below BB6.out) (RR6.out.get (by simp)) (fun q hq => (List.mem_append.1 hq).elim (HS.out.1 q) (HS.out.2.1 q)) (by have := HNN.out; simp; omega)).mono ?_
    rintro e y7 ⟨a8, b8, d8, z4, rfl, hl, hr, ho, hb⟩
    have HRz4 := Lib.hid (And.intro hr ho)
    have HH7 := Lib.hid (HasC.cons hl (HH6.out.below hb))
    have RR7 := Lib.hid (RR6.out.below hb)
    have BB7 := Lib.hid (below_then BB6.out (Nat.le_refl _) hb)
    have XX7 := Lib.hid (show C3 y7 n2 (.slice p1 q1 r1) (.slice p2 q2 r2) (.slice p3 q3 r3) ∧ C3 y7 (n2 + 1) (.slice p4 q4 r4) (.slice p5 q5 r5) (.slice p6 q6 r6) ∧ C3 y7 n5 (.slice p7 q7 r7) (.slice p8 q8 r8) (.slice p9 q9 r9) ∧ C3 y7 (n5 + 1) (.slice p10 q10 r10) (.slice p11 q11 r11) (.slice p12 q12 r12) ∧ A0 y7 n0 (⟨⟨at1, ak1, akey1, afin1, aval1, aex1, ⟨ap1, al1, aw1⟩, aov1⟩, .slice xo xn xc⟩ : Ro) from ⟨XX6.out.1.below hb, XX6.out.2.1.below hb, XX6.out.2.2.1.below hb, XX6.out.2.2.2.1.below hb, XX6.out.2.2.2.2.below hb⟩)
    clear hb HH6 RR6 BB6 XX6 hl hr ho
    obtain ⟨⟨-, s1, s2, s3, -⟩, ⟨-, s4, s5, s6, -⟩, ⟨-, s7, s8, s9, -⟩, ⟨-, s10, s11, s12, -⟩, ⟨-, c0, c1, c2, c3, c4, c5, c6, c7, c8, c9⟩⟩ := XX7.out
    simp only [] at c0 c1 c2 c3 c4 c5 c6 c7 c8 c9
    go_wp2_with fail
    clear s1 s2 s3 s4 s5 s6 s7 s8 s9 s10 s11 s12 c0 c1 c2 c3 c4 c5 c6 c7 c8 c9
    refine (is_any a7 b7 d7 a8 b8 d8 z3 z4 true _ ⟨fun _ => left_join HRz3.out.1 HRz4.out.1, fun _ => rfl⟩ (HH7.out.get (by simp)) (HH7.out.get (by simp)) (okc_small HRz3.out.2) HRz4.out.2).mono ?_
    rintro e y8 ⟨rfl, hb⟩
    have HH8 := Lib.hid (HH7.out.below hb)
    have RR8 := Lib.hid (RR7.out.below hb)
    have BB8 := Lib.hid (below_then BB7.out (Nat.le_refl _) hb)
    have XX8 := Lib.hid (show C3 y8 n2 (.slice p1 q1 r1) (.slice p2 q2 r2) (.slice p3 q3 r3) ∧ C3 y8 (n2 + 1) (.slice p4 q4 r4) (.slice p5 q5 r5) (.slice p6 q6 r6) ∧ C3 y8 n5 (.slice p7 q7 r7) (.slice p8 q8 r8) (.slice p9 q9 r9) ∧ C3 y8 (n5 + 1) (.slice p10 q10 r10) (.slice p11 q11 r11) (.slice p12 q12 r12) ∧ A0 y8 n0 (⟨⟨at1, ak1, akey1, afin1, aval1, aex1, ⟨ap1, al1, aw1⟩, aov1⟩, .slice xo xn xc⟩ : Ro) from ⟨XX7.out.1.below hb, XX7.out.2.1.below hb, XX7.out.2.2.1.below hb, XX7.out.2.2.2.1.below hb, XX7.out.2.2.2.2.below hb⟩)
    clear hb HH7 RR7 BB7 XX7
    obtain ⟨⟨-, s1, s2, s3, -⟩, ⟨-, s4, s5, s6, -⟩, ⟨-, s7, s8, s9, -⟩, ⟨-, s10, s11, s12, -⟩, ⟨-, c0, c1, c2, c3, c4, c5, c6, c7, c8, c9⟩⟩ := XX8.out
    simp only [] at c0 c1 c2 c3 c4 c5 c6 c7 c8 c9
    go_wp2_with fail
    clear s1 s2 s3 s4 s5 s6 s7 s8 s9 s10 s11 s12 c0 c1 c2 c3 c4 c5 c6 c7 c8 c9
    refine (is_any (.slice p1 q1 r1) (.slice p2 q2 r2) (.slice p3 q3 r3) (.slice p7 q7 r7) (.slice p8 q8 r8) (.slice p9 q9 r9) x u true _ ⟨fun _ => HEx.out, fun _ => rfl⟩ (HH8.out.get (by simp)) (HH8.out.get (by simp)) (okc_small HRx.out.2) HRu.out.2).mono ?_
    rintro e y9 ⟨rfl, hb⟩
    have HH9 := Lib.hid (HH8.out.below hb)
    have RR9 := Lib.hid (RR8.out.below hb)
    have BB9 := Lib.hid (below_then BB8.out (Nat.le_refl _) hb)
    have XX9 := Lib.hid (show C3 y9 n2 (.slice p1 q1 r1) (.slice p2 q2 r2) (.slice p3 q3 r3) ∧ C3 y9 (n2 + 1) (.slice p4 q4 r4) (.slice p5 q5 r5) (.slice p6 q6 r6) ∧ C3 y9 n5 (.slice p7 q7 r7) (.slice p8 q8 r8) (.slice p9 q9 r9) ∧ C3 y9 (n5 + 1) (.slice p10 q10 r10) (.slice p11 q11 r11) (.slice p12 q12 r12) ∧ A0 y9 n0 (⟨⟨at1, ak1, akey1, afin1, aval1, aex1, ⟨ap1, al1, aw1⟩, aov1⟩, .slice xo xn xc⟩ : Ro) from ⟨XX8.out.1.below hb, XX8.out.2.1.below hb, XX8.out.2.2.1.below hb, XX8.out.2.2.2.1.below hb, XX8.out.2.2.2.2.below hb⟩)
    clear hb HH8 RR8 BB8 XX8
    obtain ⟨⟨-, s1, s2, s3, -⟩, ⟨-, s4, s5, s6, -⟩, ⟨-, s7, s8, s9, -⟩, ⟨-, s10, s11, s12, -⟩, ⟨-, c0, c1, c2, c3, c4, c5, c6, c7, c8, c9⟩⟩ := XX9.out
    simp only [] at c0 c1 c2 c3 c4 c5 c6 c7 c8 c9
    go_wp2_with fail
    clear s1 s2 s3 s4 s5 s6 s7 s8 s9 s10 s11 s12 c0 c1 c2 c3 c4 c5 c6 c7 c8 c9
    refine (is_any (.slice p4 q4 r4) (.slice p5 q5 r5) (.slice p6 q6 r6) (.slice p10 q10 r10) (.slice p11 q11 r11) (.slice p12 q12 r12) y v true _ ⟨fun _ => HEy.out, fun _ => rfl⟩ (HH9.out.get (by simp)) (HH9.out.get (by simp)) (okc_small HRy.out.2) HRv.out.2).mono ?_
    rintro e y10 ⟨rfl, hb⟩
    have HH10 := Lib.hid (HH9.out.below hb)
    have RR10 := Lib.hid (RR9.out.below hb)
    have BB10 := Lib.hid (below_then BB9.out (Nat.le_refl _) hb)
    have XX10 := Lib.hid (show C3 y10 n2 (.slice p1 q1 r1) (.slice p2 q2 r2) (.slice p3 q3 r3) ∧ C3 y10 (n2 + 1) (.slice p4 q4 r4) (.slice p5 q5 r5) (.slice p6 q6 r6) ∧ C3 y10 n5 (.slice p7 q7 r7) (.slice p8 q8 r8) (.slice p9 q9 r9) ∧ C3 y10 (n5 + 1) (.slice p10 q10 r10) (.slice p11 q11 r11) (.slice p12 q12 r12) ∧ A0 y10 n0 (⟨⟨at1, ak1, akey1, afin1, aval1, aex1, ⟨ap1, al1, aw1⟩, aov1⟩, .slice xo xn xc⟩ : Ro) from ⟨XX9.out.1.below hb, XX9.out.2.1.below hb, XX9.out.2.2.1.below hb, XX9.out.2.2.2.1.below hb, XX9.out.2.2.2.2.below hb⟩)
    clear hb HH9 RR9 BB9 XX9
    obtain ⟨⟨-, s1, s2, s3, -⟩, ⟨-, s4, s5, s6, -⟩, ⟨-, s7, s8, s9, -⟩, ⟨-, s10, s11, s12, -⟩, ⟨-, c0, c1, c2, c3, c4, c5, c6, c7, c8, c9⟩⟩ := XX10.out
    simp only [] at c0 c1 c2 c3 c4 c5 c6 c7 c8 c9
    go_wp2_with fail
    clear s1 s2 s3 s4 s5 s6 s7 s8 s9 s10 s11 s12 c0 c1 c2 c3 c4 c5 c6 c7 c8 c9
    refine (alive_any _ (HT.out.below BB10.out)).mono ?_
    rintro e y11 ⟨rfl, hb⟩
    have HH11 := Lib.hid (HH10.out.below hb)
    have RR11 := Lib.hid (RR10.out.below hb)
    have BB11 := Lib.hid (below_then BB10.out (Nat.le_refl _) hb)
    have XX11 := Lib.hid (show C3 y11 n2 (.slice p1 q1 r1) (.slice p2 q2 r2) (.slice p3 q3 r3) ∧ C3 y11 (n2 + 1) (.slice p4 q4 r4) (.slice p5 q5 r5) (.slice p6 q6 r6) ∧ C3 y11 n5 (.slice p7 q7 r7) (.slice p8 q8 r8) (.slice p9 q9 r9) ∧ C3 y11 (n5 + 1) (.slice p10 q10 r10) (.slice p11 q11 r11) (.slice p12 q12 r12) ∧ A0 y11 n0 (⟨⟨at1, ak1, akey1, afin1, aval1, aex1, ⟨ap1, al1, aw1⟩, aov1⟩, .slice xo xn xc⟩ : Ro) from ⟨XX10.out.1.below hb, XX10.out.2.1.below hb, XX10.out.2.2.1.below hb, XX10.out.2.2.2.1.below hb, XX10.out.2.2.2.2.below hb⟩)
    clear hb HH10 RR10 BB10 XX10
    go_wp2_with fail
    go_ret
    exact ⟨rfl, BB11.out⟩
end Go.Proofs.YtgcfhlleaekgfaaGreatDoor.Mut
