/- The walk of the law StateSame (layer 8). PRINTED by wip/genstatesame.py. -/
import Derived.Test.YtgcfhlleaekgfaaGreatDoorConFun
namespace Go.Proofs.YtgcfhlleaekgfaaGreatDoor.Mut
open Go.RowKit Go.Sort Go.Proofs.YtgcfhlleaekgfaaGreatDoor.Ord Go.Proofs.YtgcfhlleaekgfaaGreatDoor.RegInv

theorem beq_fn (p : Mu → Bool) : (fun m => p m == true) = p := by funext m; cases p m <;> rfl
theorem bne_fn (p : Mu → Bool) : (fun m => p m == false) = fun m => !p m := by funext m; cases p m <;> rfl

set_option maxHeartbeats 8000000 in
set_option maxRecDepth 100000 in
theorem samelaw_any (v1 v2 : Value) (A B : List Ro) (s : Stp) (w : World) (hT : Tabs w) (hA : MRow w v1 A) (hB : MRow w v2 B) (zA : ∀ x ∈ A, x.1.key.size ≤ maxLen ∧ x.1.fin.size ≤ maxLen ∧ x.1.val.size ≤ maxLen) (zB : ∀ x ∈ B, x.1.key.size ≤ maxLen ∧ x.1.fin.size ≤ maxLen ∧ x.1.val.size ≤ maxLen) :
    Calls Tryz.prog 4 #[v1, v2, vS s] w (RetB true w) := by
  have HGa := Lib.hid (fun (W : World) (hW : RowKit.Below w.heap.size w W) => great_any v1 A 40 W (hA.below hW) (by decide) zA)
  have HGb := Lib.hid (fun (W : World) (hW : RowKit.Below w.heap.size w W) => great_any v2 B 40 W (hB.below hW) (by decide) zB)
  obtain ⟨ga, hga⟩ : ∃ q, q = greatF (A.map (·.1)) 40 := ⟨_, rfl⟩
  obtain ⟨gb, hgb⟩ : ∃ q, q = greatF (B.map (·.1)) 40 := ⟨_, rfl⟩
  rw [← hga] at HGa
  rw [← hgb] at HGb
  obtain ⟨la, hla⟩ : ∃ l, l = A.map (·.1) := ⟨_, rfl⟩
  obtain ⟨lb, hlb⟩ : ∃ l, l = B.map (·.1) := ⟨_, rfl⟩
  rw [← hla] at hga
  rw [← hlb] at hgb
  have HRA := Lib.hid (show Reads w v1 la from ⟨A, hla.symm, hA⟩)
  have HRB := Lib.hid (show Reads w v2 lb from ⟨B, hlb.symm, hB⟩)
  obtain ⟨ao, ac, rfl, -, -⟩ := hA.form
  obtain ⟨bo, bc, rfl, -, -⟩ := hB.form
  obtain ⟨na, hna⟩ : ∃ k, k = A.length := ⟨_, rfl⟩
  obtain ⟨nb, hnb⟩ : ∃ k, k = B.length := ⟨_, rfl⟩
  rw [← hna] at HGa HRA ⊢
  rw [← hnb] at HGb HRB ⊢
  have HT := Lib.hid hT
  have HGG := Lib.hid (And.intro hga hgb)
  clear hT hA hB zA zB hga hgb hna hnb hla hlb
  obtain ⟨x, hx⟩ : ∃ x, x = leftOf la := ⟨_, rfl⟩
  obtain ⟨y, hy⟩ : ∃ y, y = leftOf lb := ⟨_, rfl⟩
  have HXY := Lib.hid (And.intro hx hy)
  clear hx hy
  obtain ⟨sp, sl, sw⟩ := s
  obtain ⟨p, hp⟩ : ∃ p : Mu → Bool, p = fun m => decide (stC ⟨sp, sl, sw⟩ m.at_ < 0) := ⟨_, rfl⟩
  have HAb := Lib.hid (fun (c : Con) (n : Nat) (v : Value) (W : World) (hv : IsC c v W) (h : Good c n) (hn : n ≤ 100000) => show Calls Tryz.prog 18 #[v, .agg #[.int .i64 sp, .int .i64 sl, .int .i64 sw]] W (RetC (c.filter p) W) from by rw [hp]; exact c_above ⟨sp, sl, sw⟩ hv h hn)
  have HUp := Lib.hid (fun (c : Con) (n : Nat) (v : Value) (W : World) (hv : IsC c v W) (h : Good c n) (hn : n ≤ 100000) => show Calls Tryz.prog 19 #[v, .agg #[.int .i64 sp, .int .i64 sl, .int .i64 sw]] W (RetC (c.filter fun m => !p m) W) from by rw [hp]; exact c_upto ⟨sp, sl, sw⟩ hv h hn)
  have HSt := Lib.hid (fun (c : Con) (n : Nat) (v : Value) (W : World) (hv : IsC c v W) (h : Good c n) (hn : n ≤ 100000) => show Calls Tryz.prog 15 #[v, .agg #[.int .i64 sp, .int .i64 sl, .int .i64 sw], .bool true] W (RetC (c.filter p) W) from by
    rw [← beq_fn p, hp]; exact c_refsplit ⟨sp, sl, sw⟩ true hv h hn)
  have HSf := Lib.hid (fun (c : Con) (n : Nat) (v : Value) (W : World) (hv : IsC c v W) (h : Good c n) (hn : n ≤ 100000) => show Calls Tryz.prog 15 #[v, .agg #[.int .i64 sp, .int .i64 sl, .int .i64 sw], .bool false] W (RetC (c.filter fun m => !p m) W) from by
    rw [← bne_fn p, hp]; exact c_refsplit ⟨sp, sl, sw⟩ false hv h hn)
  clear hp
  unfold vS
  simp only []
  obtain ⟨W0, hW0⟩ : ∃ W0, W0 = w.alloc (.cells #[.int .i64 sp, .int .i64 sl, .int .i64 sw] 26) := ⟨_, rfl⟩
  have z0 : W0.cell? ⟨w.heap.size, 0, none⟩ = some (.int .i64 sp) := by rw [hW0]; go_simp
  have z1 : W0.cell? ⟨w.heap.size, 1, none⟩ = some (.int .i64 sl) := by rw [hW0]; go_simp
  have z2 : W0.cell? ⟨w.heap.size, 2, none⟩ = some (.int .i64 sw) := by rw [hW0]; go_simp
  have hz : w.heap.size < W0.heap.size := by rw [hW0]; simp
  have HB0 := Lib.hid (show RowKit.Below w.heap.size w W0 by rw [hW0]; exact (Below.refl _ w).alloc (Nat.le_refl _) _)
  obtain ⟨n0, hn0⟩ : ∃ n0, n0 = w.heap.size := ⟨_, rfl⟩
  rw [← hn0] at z0 z1 z2 hz
  have HZ := Lib.hid (show ∀ W, RowKit.Below W0.heap.size W0 W → W.cell? ⟨n0, 0, none⟩ = some (.int .i64 sp) ∧ W.cell? ⟨n0, 1, none⟩ = some (.int .i64 sl) ∧ W.cell? ⟨n0, 2, none⟩ = some (.int .i64 sw) from fun W h => ⟨(h.cell (p := ⟨n0, 0, none⟩) hz).trans z0, (h.cell (p := ⟨n0, 1, none⟩) hz).trans z1, (h.cell (p := ⟨n0, 2, none⟩) hz).trans z2⟩)
  have HE0 := Lib.hid (Below.refl W0.heap.size W0)
  have HW0 := Lib.hid hW0
  have HN0 := Lib.hid hn0
  clear z0 z1 z2 hz hW0 hn0
  go_enter Tryz.func4, Tryz.ntmps4
  go_upto_region 1 with fail
  rw [← HW0.out, ← HN0.out]
  clear HW0
  go_wp2_with fail
  refine (HGa.out _ HB0.out).mono ?_
  rintro e w1 ⟨rfl, rfl⟩
  cases ga
  case true =>
    go_wp2_with fail
    go_ret
    exact ⟨rfl, HB0.out⟩
  go_wp2_with fail
  refine (HGb.out _ HB0.out).mono ?_
  rintro e w1 ⟨rfl, rfl⟩
  cases gb
  case true =>
    go_wp2_with fail
    go_ret
    exact ⟨rfl, HB0.out⟩
  obtain ⟨lA, sA⟩ := great_small HGG.out.1.symm
  obtain ⟨lB, sB⟩ := great_small HGG.out.2.symm
  have HO := Lib.hid (show (∀ W, RowKit.Below w.heap.size w W → Calls Tryz.prog 9 #[.slice ao na ac] W (RetC x W) ∧ Calls Tryz.prog 10 #[.slice ao na ac] W (RetC x W)) ∧ ∀ W, RowKit.Below w.heap.size w W → Calls Tryz.prog 9 #[.slice bo nb bc] W (RetC y W) ∧ Calls Tryz.prog 10 #[.slice bo nb bc] W (RetC y W) from by
    rw [HXY.out.1, HXY.out.2]
    exact ⟨fun W h => ⟨c_of (HT.out.below h) (HRA.out.below h) (by omega) sA, c_refof (HT.out.below h) (HRA.out.below h) (by omega) sA⟩, fun W h => ⟨c_of (HT.out.below h) (HRB.out.below h) (by omega) sB, c_refof (HT.out.below h) (HRB.out.below h) (by omega) sB⟩⟩)
  have HG := Lib.hid (show Good x 40 ∧ Good y 40 from by rw [HXY.out.1, HXY.out.2]; exact ⟨(leftOf_good la).more lA, (leftOf_good lb).more lB⟩)
  clear lA lB sA sB HGG HGa HGb HRA HRB HXY
  go_wp2_with fail
  refine (HO.out.1 _ HB0.out).1.mono ?_
  rintro e w1 ⟨vv, rfl, hl, hb⟩
  obtain ⟨p1, q1, r1, p2, q2, r2, p3, q3, r3, rfl, hl1⟩ := hl.form
  have HLx0 := Lib.hid hl1
  have HB1 := Lib.hid (below_then HB0.out (Nat.le_refl _) hb)
  have HE1 := Lib.hid (below_then HE0.out (Nat.le_refl _) hb)
  skip
  clear hl hb hl1
  go_wp2_with fail
  refine (HO.out.2 _ HB1.out).1.mono ?_
  rintro e w2 ⟨vv, rfl, hl, hb⟩
  obtain ⟨p4, q4, r4, p5, q5, r5, p6, q6, r6, rfl, hl1⟩ := hl.form
  have HLy0 := Lib.hid hl1
  have HB2 := Lib.hid (below_then HB1.out (Nat.le_refl _) hb)
  have HE2 := Lib.hid (below_then HE1.out (Nat.le_refl _) hb)
  have HLx1 := Lib.hid (HLx0.out.below hb)
  skip
  clear hl hb hl1 HLx0
  go_upto_region 4 with fail
  obtain ⟨W3, hW⟩ : ∃ W, W = ((w2.alloc (.cells #[.slice p1 q1 r1, .slice p2 q2 r2, .slice p3 q3 r3] 32)).alloc (.cells #[.slice p4 q4 r4, .slice p5 q5 r5, .slice p6 q6 r6] 32)) := ⟨_, rfl⟩
  rw [← hW]
  have hb3 : RowKit.Below w2.heap.size w2 W3 := by rw [hW]; exact ((Below.refl _ _).alloc (Nat.le_refl _) _).alloc (by simp) _
  have x3 : C3 W3 w2.heap.size (.slice p1 q1 r1) (.slice p2 q2 r2) (.slice p3 q3 r3) := by
    rw [hW]
    exact (C3.new w2 _ _ _).below ((Below.refl _ _).alloc (Nat.le_refl _) _)
  have y3 : C3 W3 (w2.heap.size + 1) (.slice p4 q4 r4) (.slice p5 q5 r5) (.slice p6 q6 r6) := by
    rw [hW]
    have := C3.new (w2.alloc (.cells #[.slice p1 q1 r1, .slice p2 q2 r2, .slice p3 q3 r3] 32)) (.slice p4 q4 r4) (.slice p5 q5 r5) (.slice p6 q6 r6)
    rwa [World.size_alloc] at this
  have HLx := Lib.hid (HLx1.out.below hb3)
  have HLy := Lib.hid (HLy0.out.below hb3)
  have HB3 := Lib.hid (below_then HB2.out (Nat.le_refl _) hb3)
  have HE3 := Lib.hid (below_then HE2.out (Nat.le_refl _) hb3)
  obtain ⟨n2, hn⟩ : ∃ n, n = w2.heap.size := ⟨_, rfl⟩
  rw [← hn] at x3 y3 ⊢
  have HCx := Lib.hid x3
  have HCy := Lib.hid y3
  skip
  clear hW hb3 x3 y3 hn HLx1 HLy0
  go_wp2_with fail
  refine (HO.out.1 _ HB3.out).2.mono ?_
  rintro e w4 ⟨vv, rfl, hl, hb⟩
  obtain ⟨p7, q7, r7, p8, q8, r8, p9, q9, r9, rfl, hl1⟩ := hl.form
  have HLu0 := Lib.hid hl1
  have HB4 := Lib.hid (below_then HB3.out (Nat.le_refl _) hb)
  have HE4 := Lib.hid (below_then HE3.out (Nat.le_refl _) hb)
  have HLbx := Lib.hid (HLx.out.below hb); have HCbx := Lib.hid (HCx.out.below hb); have HLby := Lib.hid (HLy.out.below hb); have HCby := Lib.hid (HCy.out.below hb)
  clear hl hb hl1
  go_wp2_with fail
  refine (HO.out.2 _ HB4.out).2.mono ?_
  rintro e w5 ⟨vv, rfl, hl, hb⟩
  obtain ⟨p10, q10, r10, p11, q11, r11, p12, q12, r12, rfl, hl1⟩ := hl.form
  have HLv0 := Lib.hid hl1
  have HB5 := Lib.hid (below_then HB4.out (Nat.le_refl _) hb)
  have HE5 := Lib.hid (below_then HE4.out (Nat.le_refl _) hb)
  have HLu1 := Lib.hid (HLu0.out.below hb)
  have HLcx := Lib.hid (HLbx.out.below hb); have HCcx := Lib.hid (HCbx.out.below hb); have HLcy := Lib.hid (HLby.out.below hb); have HCcy := Lib.hid (HCby.out.below hb)
  clear hl hb hl1 HLu0
  go_upto_region 5 with fail
  obtain ⟨W6, hW⟩ : ∃ W, W = ((w5.alloc (.cells #[.slice p7 q7 r7, .slice p8 q8 r8, .slice p9 q9 r9] 34)).alloc (.cells #[.slice p10 q10 r10, .slice p11 q11 r11, .slice p12 q12 r12] 34)) := ⟨_, rfl⟩
  rw [← hW]
  have hb3 : RowKit.Below w5.heap.size w5 W6 := by rw [hW]; exact ((Below.refl _ _).alloc (Nat.le_refl _) _).alloc (by simp) _
  have x3 : C3 W6 w5.heap.size (.slice p7 q7 r7) (.slice p8 q8 r8) (.slice p9 q9 r9) := by
    rw [hW]
    exact (C3.newR w5 _ _ _).below ((Below.refl _ _).alloc (Nat.le_refl _) _)
  have y3 : C3 W6 (w5.heap.size + 1) (.slice p10 q10 r10) (.slice p11 q11 r11) (.slice p12 q12 r12) := by
    rw [hW]
    have := C3.newR (w5.alloc (.cells #[.slice p7 q7 r7, .slice p8 q8 r8, .slice p9 q9 r9] 34)) (.slice p10 q10 r10) (.slice p11 q11 r11) (.slice p12 q12 r12)
    rwa [World.size_alloc] at this
  have HLu := Lib.hid (HLu1.out.below hb3)
  have HLv := Lib.hid (HLv0.out.below hb3)
  have HB6 := Lib.hid (below_then HB5.out (Nat.le_refl _) hb3)
  have HE6 := Lib.hid (below_then HE5.out (Nat.le_refl _) hb3)
  obtain ⟨n5, hn⟩ : ∃ n, n = w5.heap.size := ⟨_, rfl⟩
  rw [← hn] at x3 y3 ⊢
  have HCu := Lib.hid x3
  have HCv := Lib.hid y3
  have HLdx := Lib.hid (HLcx.out.below hb3); have HCdx := Lib.hid (HCcx.out.below hb3); have HLdy := Lib.hid (HLcy.out.below hb3); have HCdy := Lib.hid (HCcy.out.below hb3)
  clear hW hb3 x3 y3 hn HLu1 HLv0
  have HZ6 := Lib.hid (fun W (h : RowKit.Below W6.heap.size W6 W) => HZ.out W (show RowKit.Below W0.heap.size W0 W from below_then HE6.out (Nat.le_refl _) h))
  go_wp2_with fail
  refine wp_region_told [6, 7] 8 [false, false, false, false, false, false, false, false, false, false, false, true, true, false, false, false, false, false, false, false, false, false, false, false, false, false, false, true, true, true, true, true, true, false, false, false, false, false, false, false, false, false, false, false, false, false, false, false, false, false, false, false, false, false, false, false, false, false, false, false, false, false, false, false, false, false, false, false, false, false, false, false, false, false, false, false]
    [sLit (.agg #[.slice p7 q7 r7, .slice p8 q8 r8, .slice p9 q9 r9]),
    sLit (.agg #[.int .i64 sp, .int .i64 sl, .int .i64 sw]),
    sOne (IsC (x.filter p)) (fun _ _ _ h hb => h.below hb),
    sLit (.agg #[.slice p7 q7 r7, .slice p8 q8 r8, .slice p9 q9 r9]),
    sLit (.agg #[.int .i64 sp, .int .i64 sl, .int .i64 sw]),
    sOne (IsC (x.filter fun m => !p m)) (fun _ _ _ h hb => h.below hb),
    sOne (fun v W => ∃ k, v = .pointer (some ⟨k, 0, none⟩) ∧ C3 W k (.slice none 0 0) (.slice none 0 0) (.slice none 0 0) ∧ W6.heap.size ≤ k) (fun _ _ _ h hb => h.elim fun k h => ⟨k, h.1, h.2.1.below hb, h.2.2⟩),
    sOne (fun v W => ∃ k, v = .pointer (some ⟨k, 0, none⟩) ∧ C3 W k (.slice none 0 0) (.slice none 0 0) (.slice none 0 0) ∧ W6.heap.size ≤ k) (fun _ _ _ h hb => h.elim fun k h => ⟨k, h.1, h.2.1.below hb, h.2.2⟩)] (by kernel_rfl) (by kernel_rfl) (by kernel_rfl) (fun F hF => ?_)
  simp only [over, overL, Nat.reduceAdd] at hF
  obtain rfl := funext hF
  clear hF
  refine ⟨⟨?_, ?_, ?_, ?_, ?_, ?_, ?_, ?_, trivial⟩, ?_⟩
  · intro V W hb hd K hK _
    clear hd
    obtain ⟨-, s0, s1, s2, -⟩ := HCu.out.below hb
    go_wp2_with fail
    refine hK _ _ ?_ ?_ ?_ ?_
    · rfl
    · exact Below.refl _ _
    · exact rfl
    · trivial
  · intro V W hb hd K hK _
    clear hd
    obtain ⟨z0, z1, z2⟩ := (HZ6.out W hb)
    go_wp2_with fail
    refine hK _ _ ?_ ?_ ?_ ?_
    · rfl
    · exact Below.refl _ _
    · exact rfl
    · trivial
  · intro V W hb hd K hK _
    have h0 : (V 27) = .agg #[.slice p7 q7 r7, .slice p8 q8 r8, .slice p9 q9 r9] := hd 0 (by kernel_rfl)
    have h1 : (V 28) = .agg #[.int .i64 sp, .int .i64 sl, .int .i64 sw] := hd 1 (by kernel_rfl)
    clear hd
    go_wp2_with fail
    refine (HSt.out x 40 _ _ (HLu.out.below hb).is HG.out.1 (by decide)).mono ?_
    rintro e w1 ⟨v1, rfl, hv1, hb1⟩
    go_wp2_with fail
    refine hK _ _ ?_ ?_ ?_ ?_
    · rfl
    · exact hb1
    · exact hv1
    · trivial
  · intro V W hb hd K hK _
    clear hd
    obtain ⟨-, s0, s1, s2, -⟩ := HCu.out.below hb
    go_wp2_with fail
    refine hK _ _ ?_ ?_ ?_ ?_
    · rfl
    · exact Below.refl _ _
    · exact rfl
    · trivial
  · intro V W hb hd K hK _
    clear hd
    obtain ⟨z0, z1, z2⟩ := (HZ6.out W hb)
    go_wp2_with fail
    refine hK _ _ ?_ ?_ ?_ ?_
    · rfl
    · exact Below.refl _ _
    · exact rfl
    · trivial
  · intro V W hb hd K hK _
    have h3 : (V 30) = .agg #[.slice p7 q7 r7, .slice p8 q8 r8, .slice p9 q9 r9] := hd 3 (by kernel_rfl)
    have h4 : (V 31) = .agg #[.int .i64 sp, .int .i64 sl, .int .i64 sw] := hd 4 (by kernel_rfl)
    clear hd
    go_wp2_with fail
    refine (HSf.out x 40 _ _ (HLu.out.below hb).is HG.out.1 (by decide)).mono ?_
    rintro e w1 ⟨v1, rfl, hv1, hb1⟩
    go_wp2_with fail
    refine hK _ _ ?_ ?_ ?_ ?_
    · rfl
    · exact hb1
    · exact hv1
    · trivial
  · intro V W hb hd K hK _
    clear hd
    go_wp2_with fail
    refine hK _ _ ?_ ?_ ?_ ?_
    · rfl
    · exact (Below.refl _ _).alloc (Nat.le_refl _) _
    · exact ⟨_, rfl, C3.newR W _ _ _, hb.size⟩
    · exact ⟨rfl, by simp⟩
  · intro V W hb hd K hK _
    clear hd
    go_wp2_with fail
    refine hK _ _ ?_ ?_ ?_ ?_
    · rfl
    · exact (Below.refl _ _).alloc (Nat.le_refl _) _
    · exact ⟨_, rfl, C3.newR W _ _ _, hb.size⟩
    · exact ⟨rfl, by simp⟩
  · intro V W hb hd hap
    have h2 : IsC (x.filter p) (V 29) W := hd 2 (by decide)
    have h5 : IsC (x.filter fun m => !p m) (V 32) W := hd 5 (by decide)
    have h6 : ∃ k, (V 11) = .pointer (some ⟨k, 0, none⟩) ∧ C3 W k (.slice none 0 0) (.slice none 0 0) (.slice none 0 0) ∧ W6.heap.size ≤ k := hd 6 (by decide)
    have h7 : ∃ k, (V 12) = .pointer (some ⟨k, 0, none⟩) ∧ C3 W k (.slice none 0 0) (.slice none 0 0) (.slice none 0 0) ∧ W6.heap.size ≤ k := hd 7 (by decide)
    clear hd
    simp only [List.drop_succ_cons, List.drop_zero]
    obtain ⟨p13, q13, r13, p14, q14, r14, p15, q15, r15, e29, hl29⟩ := h2.form
    obtain ⟨p16, q16, r16, p17, q17, r17, p18, q18, r18, e32, hl32⟩ := h5.form
    obtain ⟨k11, e11, c11, g11⟩ := h6
    obtain ⟨k12, e12, c12, g12⟩ := h7
    have hne : ¬ k11 = k12 := fun e => hap 6 7 (by decide) (by decide) (by decide) (by decide) (by decide) (by show V 11 = V 12; rw [e11, e12, e])
    have hne' : ¬ k12 = k11 := fun e => hne e.symm
    have HQ := Lib.hid (And.intro hl29 (And.intro hl32 (And.intro c11 (And.intro c12 (And.intro g11 g12)))))
    have HB := Lib.hid hb
    clear h2 h5 hap hl29 hl32 g11 g12 hb
    obtain ⟨-, t0, t1, t2, f0, f1, f2⟩ := c11
    obtain ⟨-, t3, t4, t5, f3, f4, f5⟩ := c12
    go_upto_region 6 with fail
    obtain ⟨W7, hW7⟩ : ∃ W7, W7 = ((((((W.setCell ⟨k11, 0, none⟩ (.slice p13 q13 r13)).setCell ⟨k11, 1, none⟩ (.slice p14 q14 r14)).setCell ⟨k11, 2, none⟩ (.slice p15 q15 r15)).setCell ⟨k12, 0, none⟩ (.slice p16 q16 r16)).setCell ⟨k12, 1, none⟩ (.slice p17 q17 r17)).setCell ⟨k12, 2, none⟩ (.slice p18 q18 r18)) := ⟨_, rfl⟩
    rw [← hW7]
    have k1 := c3_put HQ.out.2.2.1 (.slice p13 q13 r13) (.slice p14 q14 r14) (.slice p15 q15 r15)
    have k2 : C3 (((W.setCell ⟨k11, 0, none⟩ (.slice p13 q13 r13)).setCell ⟨k11, 1, none⟩ (.slice p14 q14 r14)).setCell ⟨k11, 2, none⟩ (.slice p15 q15 r15)) k12 (.slice none 0 0) (.slice none 0 0) (.slice none 0 0) := ((HQ.out.2.2.2.1.other hne).other hne).other hne
    have k3 := c3_put k2 (.slice p16 q16 r16) (.slice p17 q17 r17) (.slice p18 q18 r18)
    have k4 : C3 (((((((W.setCell ⟨k11, 0, none⟩ (.slice p13 q13 r13)).setCell ⟨k11, 1, none⟩ (.slice p14 q14 r14)).setCell ⟨k11, 2, none⟩ (.slice p15 q15 r15)).setCell ⟨k12, 0, none⟩ (.slice p16 q16 r16)).setCell ⟨k12, 1, none⟩ (.slice p17 q17 r17)).setCell ⟨k12, 2, none⟩ (.slice p18 q18 r18))) k11 (.slice p13 q13 r13) (.slice p14 q14 r14) (.slice p15 q15 r15) := ((k1.other hne').other hne').other hne'
    have hb7 : RowKit.Below W6.heap.size W6 W7 := by rw [hW7]; exact c3_put_below (c3_put_below HB.out HQ.out.2.2.2.2.1 _ _ _) HQ.out.2.2.2.2.2 _ _ _
    have l1 := (HQ.out.1.plain3 (plain3 HQ.out.2.2.1 (.slice p13 q13 r13) (.slice p14 q14 r14) (.slice p15 q15 r15))).plain3 (plain3 k2 (.slice p16 q16 r16) (.slice p17 q17 r17) (.slice p18 q18 r18))
    have l2 := (HQ.out.2.1.plain3 (plain3 HQ.out.2.2.1 (.slice p13 q13 r13) (.slice p14 q14 r14) (.slice p15 q15 r15))).plain3 (plain3 k2 (.slice p16 q16 r16) (.slice p17 q17 r17) (.slice p18 q18 r18))
    rw [← hW7] at k3 k4 l1 l2
    have HCup := Lib.hid k4
    have HClow := Lib.hid k3
    have HLup := Lib.hid l1
    have HLlow := Lib.hid l2
    have H67 := Lib.hid hb7
    clear hW7 k1 k2 k3 k4 l1 l2 hb7 HQ HB t0 t1 t2 t3 t4 t5 f0 f1 f2 f3 f4 f5 e29 e32 e11 e12 hne hne'
    have HZ7 := Lib.hid (fun W (h : RowKit.Below W7.heap.size W7 W) => HZ6.out W (below_then H67.out (Nat.le_refl _) h))
    have HF := Lib.hid (fun W (h : RowKit.Below W7.heap.size W7 W) => And.intro (HCdx.out.below (below_then H67.out (Nat.le_refl _) h)) (And.intro (HCdy.out.below (below_then H67.out (Nat.le_refl _) h)) (And.intro (HCu.out.below (below_then H67.out (Nat.le_refl _) h)) (HCv.out.below (below_then H67.out (Nat.le_refl _) h)))))
    have HI := Lib.hid (fun W (h : RowKit.Below W7.heap.size W7 W) => And.intro (HLdx.out.below (below_then H67.out (Nat.le_refl _) h)).is (And.intro (HLdy.out.below (below_then H67.out (Nat.le_refl _) h)).is (And.intro (HLu.out.below (below_then H67.out (Nat.le_refl _) h)).is (HLv.out.below (below_then H67.out (Nat.le_refl _) h)).is)))
    have HTW := Lib.hid (fun W (h : RowKit.Below W7.heap.size W7 W) => HT.out.below (below_then HB6.out (Nat.le_refl _) (below_then H67.out (Nat.le_refl _) h)))
    have HPJ := Lib.hid (parts_join HG.out.1 p)
    have HGu := Lib.hid (HG.out.1.filter p)
    have HGl := Lib.hid (HG.out.1.filter fun m => !p m)
    obtain ⟨q, hq⟩ : ∃ q : Bool, q = true ↔ x = y := by
      by_cases h : x = y
      · exact ⟨true, by simp [h]⟩
      · exact ⟨false, by simp [h]⟩
    have HQ := Lib.hid hq
    clear hq
    go_wp2_with fail
    refine wp_region_told [] 43 [false, false, false, false, false, false, false, false, false, false, false, false, false, false, false, false, false, false, false, false, false, false, false, false, false, false, false, false, false, false, false, false, false, true, true, true, true, true, true, true, true, true, true, true, true, true, true, true, true, true, true, true, true, true, true, true, true, true, true, true, true, true, true, true, true, true, true, true, true, true, true, true, true, true, true, true]
      [sLit (.agg #[.slice p1 q1 r1, .slice p2 q2 r2, .slice p3 q3 r3]),
    sLit (.agg #[.slice p4 q4 r4, .slice p5 q5 r5, .slice p6 q6 r6]),
    sLit (.bool q),
    sLit (.agg #[.slice p7 q7 r7, .slice p8 q8 r8, .slice p9 q9 r9]),
    sLit (.agg #[.slice p10 q10 r10, .slice p11 q11 r11, .slice p12 q12 r12]),
    sLit (.bool q),
    sLit (.bool true),
    sLit (.bool true),
    sLit (.agg #[.slice p1 q1 r1, .slice p2 q2 r2, .slice p3 q3 r3]),
    sLit (.agg #[.int .i64 sp, .int .i64 sl, .int .i64 sw]),
    sOne (IsC (x.filter p)) (fun _ _ _ h hb => h.below hb),
    sLit (.agg #[.slice p1 q1 r1, .slice p2 q2 r2, .slice p3 q3 r3]),
    sLit (.agg #[.int .i64 sp, .int .i64 sl, .int .i64 sw]),
    sOne (IsC (x.filter fun m => !p m)) (fun _ _ _ h hb => h.below hb),
    sOne (IsC (joinC (x.filter p) (x.filter fun m => !p m))) (fun _ _ _ h hb => h.below hb),
    sLit (.agg #[.slice p7 q7 r7, .slice p8 q8 r8, .slice p9 q9 r9]),
    sLit (.bool true),
    sLit (.bool true),
    sLit (.bool true),
    sLit (.agg #[.slice p1 q1 r1, .slice p2 q2 r2, .slice p3 q3 r3]),
    sLit (.agg #[.int .i64 sp, .int .i64 sl, .int .i64 sw]),
    sOne (IsC (x.filter p)) (fun _ _ _ h hb => h.below hb),
    sLit (.agg #[.slice p4 q4 r4, .slice p5 q5 r5, .slice p6 q6 r6]),
    sOne (IsC (joinC (x.filter p) y)) (fun _ _ _ h hb => h.below hb),
    sLit (.agg #[.slice p13 q13 r13, .slice p14 q14 r14, .slice p15 q15 r15]),
    sLit (.agg #[.slice p10 q10 r10, .slice p11 q11 r11, .slice p12 q12 r12]),
    sOne (IsC (joinC (x.filter p) y)) (fun _ _ _ h hb => h.below hb),
    sLit (.bool true),
    sLit (.bool true),
    sLit (.bool true),
    sLit (.agg #[.slice p4 q4 r4, .slice p5 q5 r5, .slice p6 q6 r6]),
    sLit (.agg #[.slice p1 q1 r1, .slice p2 q2 r2, .slice p3 q3 r3]),
    sLit (.agg #[.int .i64 sp, .int .i64 sl, .int .i64 sw]),
    sOne (IsC (x.filter fun m => !p m)) (fun _ _ _ h hb => h.below hb),
    sOne (IsC (joinC y (x.filter fun m => !p m))) (fun _ _ _ h hb => h.below hb),
    sLit (.agg #[.slice p10 q10 r10, .slice p11 q11 r11, .slice p12 q12 r12]),
    sLit (.agg #[.slice p16 q16 r16, .slice p17 q17 r17, .slice p18 q18 r18]),
    sOne (IsC (joinC y (x.filter fun m => !p m))) (fun _ _ _ h hb => h.below hb),
    sLit (.bool true),
    sLit (.bool true),
    sLit (.bool true),
    sLit (.bool true),
    sLit (.bool true)] (by kernel_rfl) (by kernel_rfl) (by kernel_rfl) (fun F hF => ?_)
    simp only [over, overL, Nat.reduceAdd] at hF
    obtain rfl := funext hF
    clear hF
    refine ⟨⟨?_, ?_, ?_, ?_, ?_, ?_, ?_, ?_, ?_, ?_, ?_, ?_, ?_, ?_, ?_, ?_, ?_, ?_, ?_, ?_, ?_, ?_, ?_, ?_, ?_, ?_, ?_, ?_, ?_, ?_, ?_, ?_, ?_, ?_, ?_, ?_, ?_, ?_, ?_, ?_, ?_, ?_, ?_, trivial⟩, ?_⟩
    · intro V W hb hd K hK _
      clear hd
      obtain ⟨-, s0, s1, s2, -⟩ := (HF.out W hb).1
      go_wp2_with fail
      refine hK _ _ ?_ ?_ ?_ ?_
      · rfl
      · exact Below.refl _ _
      · exact rfl
      · trivial
    · intro V W hb hd K hK _
      clear hd
      obtain ⟨-, s0, s1, s2, -⟩ := (HF.out W hb).2.1
      go_wp2_with fail
      refine hK _ _ ?_ ?_ ?_ ?_
      · rfl
      · exact Below.refl _ _
      · exact rfl
      · trivial
    · intro V W hb hd K hK _
      have h0 : (V 33) = .agg #[.slice p1 q1 r1, .slice p2 q2 r2, .slice p3 q3 r3] := hd 0 (by kernel_rfl)
      have h1 : (V 34) = .agg #[.slice p4 q4 r4, .slice p5 q5 r5, .slice p6 q6 r6] := hd 1 (by kernel_rfl)
      clear hd
      go_wp2_with fail
      refine (c_same q HQ.out (HI.out W hb).1 HG.out.1 (HI.out W hb).2.1 HG.out.2 (by decide) (by decide)).mono ?_
      rintro e w1 ⟨rfl, hb1⟩
      go_wp2_with fail
      refine hK _ _ ?_ ?_ ?_ ?_
      · rfl
      · exact hb1
      · exact rfl
      · trivial
    · intro V W hb hd K hK _
      clear hd
      obtain ⟨-, s0, s1, s2, -⟩ := (HF.out W hb).2.2.1
      go_wp2_with fail
      refine hK _ _ ?_ ?_ ?_ ?_
      · rfl
      · exact Below.refl _ _
      · exact rfl
      · trivial
    · intro V W hb hd K hK _
      clear hd
      obtain ⟨-, s0, s1, s2, -⟩ := (HF.out W hb).2.2.2
      go_wp2_with fail
      refine hK _ _ ?_ ?_ ?_ ?_
      · rfl
      · exact Below.refl _ _
      · exact rfl
      · trivial
    · intro V W hb hd K hK _
      have h3 : (V 36) = .agg #[.slice p7 q7 r7, .slice p8 q8 r8, .slice p9 q9 r9] := hd 3 (by kernel_rfl)
      have h4 : (V 37) = .agg #[.slice p10 q10 r10, .slice p11 q11 r11, .slice p12 q12 r12] := hd 4 (by kernel_rfl)
      clear hd
      go_wp2_with fail
      refine (c_refsame q HQ.out (HI.out W hb).2.2.1 HG.out.1 (HI.out W hb).2.2.2 HG.out.2).mono ?_
      rintro e w1 ⟨rfl, hb1⟩
      go_wp2_with fail
      refine hK _ _ ?_ ?_ ?_ ?_
      · rfl
      · exact hb1
      · exact rfl
      · trivial
    · intro V W hb hd K hK _
      have h2 : (V 35) = .bool q := hd 2 (by kernel_rfl)
      have h5 : (V 38) = .bool q := hd 5 (by kernel_rfl)
      clear hd
      cases q
      all_goals
        go_wp2_with fail
        refine hK _ _ ?_ ?_ ?_ ?_
        · rfl
        · exact Below.refl _ _
        · rfl
        · trivial
    · intro V W hb hd K hK _
      have h6 : (V 39) = .bool true := hd 6 (by kernel_rfl)
      clear hd
      go_wp2_with fail
      refine hK _ _ ?_ ?_ ?_ ?_
      · rfl
      · exact Below.refl _ _
      · exact rfl
      · trivial
    · intro V W hb hd K hK _
      have h7 : (V 40) = .bool true := hd 7 (by kernel_rfl)
      clear hd
      obtain ⟨-, s0, s1, s2, -⟩ := (HF.out W hb).1
      go_wp2_with fail
      refine hK _ _ ?_ ?_ ?_ ?_
      · rfl
      · exact Below.refl _ _
      · exact rfl
      · trivial
    · intro V W hb hd K hK _
      have h7 : (V 40) = .bool true := hd 7 (by kernel_rfl)
      clear hd
      obtain ⟨z0, z1, z2⟩ := (HZ7.out W hb)
      go_wp2_with fail
      refine hK _ _ ?_ ?_ ?_ ?_
      · rfl
      · exact Below.refl _ _
      · exact rfl
      · trivial
    · intro V W hb hd K hK _
      have h7 : (V 40) = .bool true := hd 7 (by kernel_rfl)
      have h8 : (V 41) = .agg #[.slice p1 q1 r1, .slice p2 q2 r2, .slice p3 q3 r3] := hd 8 (by kernel_rfl)
      have h9 : (V 42) = .agg #[.int .i64 sp, .int .i64 sl, .int .i64 sw] := hd 9 (by kernel_rfl)
      clear hd
      go_wp2_with fail
      refine (HAb.out x 40 _ _ (HI.out W hb).1 HG.out.1 (by decide)).mono ?_
      rintro e w1 ⟨v1, rfl, hv1, hb1⟩
      go_wp2_with fail
      refine hK _ _ ?_ ?_ ?_ ?_
      · rfl
      · exact hb1
      · exact hv1
      · trivial
    · intro V W hb hd K hK _
      have h7 : (V 40) = .bool true := hd 7 (by kernel_rfl)
      clear hd
      obtain ⟨-, s0, s1, s2, -⟩ := (HF.out W hb).1
      go_wp2_with fail
      refine hK _ _ ?_ ?_ ?_ ?_
      · rfl
      · exact Below.refl _ _
      · exact rfl
      · trivial
    · intro V W hb hd K hK _
      have h7 : (V 40) = .bool true := hd 7 (by kernel_rfl)
      clear hd
      obtain ⟨z0, z1, z2⟩ := (HZ7.out W hb)
      go_wp2_with fail
      refine hK _ _ ?_ ?_ ?_ ?_
      · rfl
      · exact Below.refl _ _
      · exact rfl
      · trivial
    · intro V W hb hd K hK _
      have h7 : (V 40) = .bool true := hd 7 (by kernel_rfl)
      have h11 : (V 44) = .agg #[.slice p1 q1 r1, .slice p2 q2 r2, .slice p3 q3 r3] := hd 11 (by kernel_rfl)
      have h12 : (V 45) = .agg #[.int .i64 sp, .int .i64 sl, .int .i64 sw] := hd 12 (by kernel_rfl)
      clear hd
      go_wp2_with fail
      refine (HUp.out x 40 _ _ (HI.out W hb).1 HG.out.1 (by decide)).mono ?_
      rintro e w1 ⟨v1, rfl, hv1, hb1⟩
      go_wp2_with fail
      refine hK _ _ ?_ ?_ ?_ ?_
      · rfl
      · exact hb1
      · exact hv1
      · trivial
    · intro V W hb hd K hK _
      have h7 : (V 40) = .bool true := hd 7 (by kernel_rfl)
      have h10 : IsC (x.filter p) (V 43) W := hd 10 (by kernel_rfl)
      have h13 : IsC (x.filter fun m => !p m) (V 46) W := hd 13 (by kernel_rfl)
      clear hd
      go_wp2_with fail
      refine (c_join (HTW.out W hb) h10 HGu.out h13 HGl.out (by decide)).mono ?_
      rintro e w1 ⟨v1, rfl, hv1, hb1⟩
      go_wp2_with fail
      refine hK _ _ ?_ ?_ ?_ ?_
      · rfl
      · exact hb1
      · exact hv1
      · trivial
    · intro V W hb hd K hK _
      have h7 : (V 40) = .bool true := hd 7 (by kernel_rfl)
      clear hd
      obtain ⟨-, s0, s1, s2, -⟩ := (HF.out W hb).2.2.1
      go_wp2_with fail
      refine hK _ _ ?_ ?_ ?_ ?_
      · rfl
      · exact Below.refl _ _
      · exact rfl
      · trivial
    · intro V W hb hd K hK _
      have h7 : (V 40) = .bool true := hd 7 (by kernel_rfl)
      have h14 : IsC (joinC (x.filter p) (x.filter fun m => !p m)) (V 47) W := hd 14 (by kernel_rfl)
      have h15 : (V 48) = .agg #[.slice p7 q7 r7, .slice p8 q8 r8, .slice p9 q9 r9] := hd 15 (by kernel_rfl)
      clear hd
      go_wp2_with fail
      refine (c_is true ⟨fun _ => HPJ.out, fun _ => rfl⟩ h14 (joinC_good HGu.out HGl.out) (HI.out W hb).2.2.1 HG.out.1).mono ?_
      rintro e w1 ⟨rfl, hb1⟩
      go_wp2_with fail
      refine hK _ _ ?_ ?_ ?_ ?_
      · rfl
      · exact hb1
      · exact rfl
      · trivial
    · intro V W hb hd K hK _
      have h7 : (V 40) = .bool true := hd 7 (by kernel_rfl)
      have h16 : (V 49) = .bool true := hd 16 (by kernel_rfl)
      clear hd
      go_wp2_with fail
      refine hK _ _ ?_ ?_ ?_ ?_
      · rfl
      · exact Below.refl _ _
      · exact rfl
      · trivial
    · intro V W hb hd K hK _
      have h17 : (V 50) = .bool true := hd 17 (by kernel_rfl)
      clear hd
      go_wp2_with fail
      refine hK _ _ ?_ ?_ ?_ ?_
      · rfl
      · exact Below.refl _ _
      · exact rfl
      · trivial
    · intro V W hb hd K hK _
      have h18 : (V 51) = .bool true := hd 18 (by kernel_rfl)
      clear hd
      obtain ⟨-, s0, s1, s2, -⟩ := (HF.out W hb).1
      go_wp2_with fail
      refine hK _ _ ?_ ?_ ?_ ?_
      · rfl
      · exact Below.refl _ _
      · exact rfl
      · trivial
    · intro V W hb hd K hK _
      have h18 : (V 51) = .bool true := hd 18 (by kernel_rfl)
      clear hd
      obtain ⟨z0, z1, z2⟩ := (HZ7.out W hb)
      go_wp2_with fail
      refine hK _ _ ?_ ?_ ?_ ?_
      · rfl
      · exact Below.refl _ _
      · exact rfl
      · trivial
    · intro V W hb hd K hK _
      have h18 : (V 51) = .bool true := hd 18 (by kernel_rfl)
      have h19 : (V 52) = .agg #[.slice p1 q1 r1, .slice p2 q2 r2, .slice p3 q3 r3] := hd 19 (by kernel_rfl)
      have h20 : (V 53) = .agg #[.int .i64 sp, .int .i64 sl, .int .i64 sw] := hd 20 (by kernel_rfl)
      clear hd
      go_wp2_with fail
      refine (HAb.out x 40 _ _ (HI.out W hb).1 HG.out.1 (by decide)).mono ?_
      rintro e w1 ⟨v1, rfl, hv1, hb1⟩
      go_wp2_with fail
      refine hK _ _ ?_ ?_ ?_ ?_
      · rfl
      · exact hb1
      · exact hv1
      · trivial
    · intro V W hb hd K hK _
      have h18 : (V 51) = .bool true := hd 18 (by kernel_rfl)
      clear hd
      obtain ⟨-, s0, s1, s2, -⟩ := (HF.out W hb).2.1
      go_wp2_with fail
      refine hK _ _ ?_ ?_ ?_ ?_
      · rfl
      · exact Below.refl _ _
      · exact rfl
      · trivial
    · intro V W hb hd K hK _
      have h18 : (V 51) = .bool true := hd 18 (by kernel_rfl)
      have h21 : IsC (x.filter p) (V 54) W := hd 21 (by kernel_rfl)
      have h22 : (V 55) = .agg #[.slice p4 q4 r4, .slice p5 q5 r5, .slice p6 q6 r6] := hd 22 (by kernel_rfl)
      clear hd
      go_wp2_with fail
      refine (c_join (HTW.out W hb) h21 HGu.out (HI.out W hb).2.1 HG.out.2 (by decide)).mono ?_
      rintro e w1 ⟨v1, rfl, hv1, hb1⟩
      go_wp2_with fail
      refine hK _ _ ?_ ?_ ?_ ?_
      · rfl
      · exact hb1
      · exact hv1
      · trivial
    · intro V W hb hd K hK _
      have h18 : (V 51) = .bool true := hd 18 (by kernel_rfl)
      clear hd
      obtain ⟨-, s0, s1, s2, -⟩ := HCup.out.below hb
      go_wp2_with fail
      refine hK _ _ ?_ ?_ ?_ ?_
      · rfl
      · exact Below.refl _ _
      · exact rfl
      · trivial
    · intro V W hb hd K hK _
      have h18 : (V 51) = .bool true := hd 18 (by kernel_rfl)
      clear hd
      obtain ⟨-, s0, s1, s2, -⟩ := (HF.out W hb).2.2.2
      go_wp2_with fail
      refine hK _ _ ?_ ?_ ?_ ?_
      · rfl
      · exact Below.refl _ _
      · exact rfl
      · trivial
    · intro V W hb hd K hK _
      have h18 : (V 51) = .bool true := hd 18 (by kernel_rfl)
      have h24 : (V 57) = .agg #[.slice p13 q13 r13, .slice p14 q14 r14, .slice p15 q15 r15] := hd 24 (by kernel_rfl)
      have h25 : (V 58) = .agg #[.slice p10 q10 r10, .slice p11 q11 r11, .slice p12 q12 r12] := hd 25 (by kernel_rfl)
      clear hd
      go_wp2_with fail
      refine (c_refjoin (HTW.out W hb) (HLup.out.below hb).is HGu.out (HI.out W hb).2.2.2 HG.out.2 (by decide)).mono ?_
      rintro e w1 ⟨v1, rfl, hv1, hb1⟩
      go_wp2_with fail
      refine hK _ _ ?_ ?_ ?_ ?_
      · rfl
      · exact hb1
      · exact hv1
      · trivial
    · intro V W hb hd K hK _
      have h18 : (V 51) = .bool true := hd 18 (by kernel_rfl)
      have h23 : IsC (joinC (x.filter p) y) (V 56) W := hd 23 (by kernel_rfl)
      have h26 : IsC (joinC (x.filter p) y) (V 59) W := hd 26 (by kernel_rfl)
      clear hd
      go_wp2_with fail
      refine (c_is true ⟨fun _ => rfl, fun _ => rfl⟩ h23 (joinC_good HGu.out HG.out.2) h26 (joinC_good HGu.out HG.out.2)).mono ?_
      rintro e w1 ⟨rfl, hb1⟩
      go_wp2_with fail
      refine hK _ _ ?_ ?_ ?_ ?_
      · rfl
      · exact hb1
      · exact rfl
      · trivial
    · intro V W hb hd K hK _
      have h18 : (V 51) = .bool true := hd 18 (by kernel_rfl)
      have h27 : (V 60) = .bool true := hd 27 (by kernel_rfl)
      clear hd
      go_wp2_with fail
      refine hK _ _ ?_ ?_ ?_ ?_
      · rfl
      · exact Below.refl _ _
      · exact rfl
      · trivial
    · intro V W hb hd K hK _
      have h28 : (V 61) = .bool true := hd 28 (by kernel_rfl)
      clear hd
      go_wp2_with fail
      refine hK _ _ ?_ ?_ ?_ ?_
      · rfl
      · exact Below.refl _ _
      · exact rfl
      · trivial
    · intro V W hb hd K hK _
      have h29 : (V 62) = .bool true := hd 29 (by kernel_rfl)
      clear hd
      obtain ⟨-, s0, s1, s2, -⟩ := (HF.out W hb).2.1
      go_wp2_with fail
      refine hK _ _ ?_ ?_ ?_ ?_
      · rfl
      · exact Below.refl _ _
      · exact rfl
      · trivial
    · intro V W hb hd K hK _
      have h29 : (V 62) = .bool true := hd 29 (by kernel_rfl)
      clear hd
      obtain ⟨-, s0, s1, s2, -⟩ := (HF.out W hb).1
      go_wp2_with fail
      refine hK _ _ ?_ ?_ ?_ ?_
      · rfl
      · exact Below.refl _ _
      · exact rfl
      · trivial
    · intro V W hb hd K hK _
      have h29 : (V 62) = .bool true := hd 29 (by kernel_rfl)
      clear hd
      obtain ⟨z0, z1, z2⟩ := (HZ7.out W hb)
      go_wp2_with fail
      refine hK _ _ ?_ ?_ ?_ ?_
      · rfl
      · exact Below.refl _ _
      · exact rfl
      · trivial
    · intro V W hb hd K hK _
      have h29 : (V 62) = .bool true := hd 29 (by kernel_rfl)
      have h31 : (V 64) = .agg #[.slice p1 q1 r1, .slice p2 q2 r2, .slice p3 q3 r3] := hd 31 (by kernel_rfl)
      have h32 : (V 65) = .agg #[.int .i64 sp, .int .i64 sl, .int .i64 sw] := hd 32 (by kernel_rfl)
      clear hd
      go_wp2_with fail
      refine (HUp.out x 40 _ _ (HI.out W hb).1 HG.out.1 (by decide)).mono ?_
      rintro e w1 ⟨v1, rfl, hv1, hb1⟩
      go_wp2_with fail
      refine hK _ _ ?_ ?_ ?_ ?_
      · rfl
      · exact hb1
      · exact hv1
      · trivial
    · intro V W hb hd K hK _
      have h29 : (V 62) = .bool true := hd 29 (by kernel_rfl)
      have h30 : (V 63) = .agg #[.slice p4 q4 r4, .slice p5 q5 r5, .slice p6 q6 r6] := hd 30 (by kernel_rfl)
      have h33 : IsC (x.filter fun m => !p m) (V 66) W := hd 33 (by kernel_rfl)
      clear hd
      go_wp2_with fail
      refine (c_join (HTW.out W hb) (HI.out W hb).2.1 HG.out.2 h33 HGl.out (by decide)).mono ?_
      rintro e w1 ⟨v1, rfl, hv1, hb1⟩
      go_wp2_with fail
      refine hK _ _ ?_ ?_ ?_ ?_
      · rfl
      · exact hb1
      · exact hv1
      · trivial
    · intro V W hb hd K hK _
      have h29 : (V 62) = .bool true := hd 29 (by kernel_rfl)
      clear hd
      obtain ⟨-, s0, s1, s2, -⟩ := (HF.out W hb).2.2.2
      go_wp2_with fail
      refine hK _ _ ?_ ?_ ?_ ?_
      · rfl
      · exact Below.refl _ _
      · exact rfl
      · trivial
    · intro V W hb hd K hK _
      have h29 : (V 62) = .bool true := hd 29 (by kernel_rfl)
      clear hd
      obtain ⟨-, s0, s1, s2, -⟩ := HClow.out.below hb
      go_wp2_with fail
      refine hK _ _ ?_ ?_ ?_ ?_
      · rfl
      · exact Below.refl _ _
      · exact rfl
      · trivial
    · intro V W hb hd K hK _
      have h29 : (V 62) = .bool true := hd 29 (by kernel_rfl)
      have h35 : (V 68) = .agg #[.slice p10 q10 r10, .slice p11 q11 r11, .slice p12 q12 r12] := hd 35 (by kernel_rfl)
      have h36 : (V 69) = .agg #[.slice p16 q16 r16, .slice p17 q17 r17, .slice p18 q18 r18] := hd 36 (by kernel_rfl)
      clear hd
      go_wp2_with fail
      refine (c_refjoin (HTW.out W hb) (HI.out W hb).2.2.2 HG.out.2 (HLlow.out.below hb).is HGl.out (by decide)).mono ?_
      rintro e w1 ⟨v1, rfl, hv1, hb1⟩
      go_wp2_with fail
      refine hK _ _ ?_ ?_ ?_ ?_
      · rfl
      · exact hb1
      · exact hv1
      · trivial
    · intro V W hb hd K hK _
      have h29 : (V 62) = .bool true := hd 29 (by kernel_rfl)
      have h34 : IsC (joinC y (x.filter fun m => !p m)) (V 67) W := hd 34 (by kernel_rfl)
      have h37 : IsC (joinC y (x.filter fun m => !p m)) (V 70) W := hd 37 (by kernel_rfl)
      clear hd
      go_wp2_with fail
      refine (c_is true ⟨fun _ => rfl, fun _ => rfl⟩ h34 (joinC_good HG.out.2 HGl.out) h37 (joinC_good HG.out.2 HGl.out)).mono ?_
      rintro e w1 ⟨rfl, hb1⟩
      go_wp2_with fail
      refine hK _ _ ?_ ?_ ?_ ?_
      · rfl
      · exact hb1
      · exact rfl
      · trivial
    · intro V W hb hd K hK _
      have h29 : (V 62) = .bool true := hd 29 (by kernel_rfl)
      have h38 : (V 71) = .bool true := hd 38 (by kernel_rfl)
      clear hd
      go_wp2_with fail
      refine hK _ _ ?_ ?_ ?_ ?_
      · rfl
      · exact Below.refl _ _
      · exact rfl
      · trivial
    · intro V W hb hd K hK _
      have h39 : (V 72) = .bool true := hd 39 (by kernel_rfl)
      clear hd
      go_wp2_with fail
      refine hK _ _ ?_ ?_ ?_ ?_
      · rfl
      · exact Below.refl _ _
      · exact rfl
      · trivial
    · intro V W hb hd K hK _
      have h40 : (V 73) = .bool true := hd 40 (by kernel_rfl)
      clear hd
      go_wp2_with fail
      refine (alive_any W (HTW.out W hb)).mono ?_
      rintro e w1 ⟨rfl, hb1⟩
      go_wp2_with fail
      refine hK _ _ ?_ ?_ ?_ ?_
      · rfl
      · exact hb1
      · exact rfl
      · trivial
    · intro V W hb hd K hK _
      have h40 : (V 73) = .bool true := hd 40 (by kernel_rfl)
      have h41 : (V 74) = .bool true := hd 41 (by kernel_rfl)
      clear hd
      go_wp2_with fail
      refine hK _ _ ?_ ?_ ?_ ?_
      · rfl
      · exact Below.refl _ _
      · exact rfl
      · trivial
    · intro V W hb hd hap
      have h42 : (V 75) = .bool true := hd 42 (by decide)
      clear hd hap
      simp only [List.drop_succ_cons, List.drop_zero]
      have HBZ := Lib.hid (below_then HB6.out (Nat.le_refl _) (below_then H67.out (Nat.le_refl _) hb))
      clear hb
      go_wp2_with fail
      go_ret
      exact ⟨rfl, HBZ.out⟩
end Go.Proofs.YtgcfhlleaekgfaaGreatDoor.Mut
