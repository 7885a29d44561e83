/- The walk of the law StateParts (layer 8). PRINTED by wip/genstateparts.py. -/
import Derived.Test.YtgcfhlleaekgfaaGreatDoorSup
namespace Go.Proofs.YtgcfhlleaekgfaaGreatDoor.Mut
open Go.RowKit Go.Sort Go.Proofs.YtgcfhlleaekgfaaGreatDoor.Ord Go.Proofs.YtgcfhlleaekgfaaGreatDoor.RegInv

theorem beq_fn (p : Mu → Bool) : (fun m => p m == true) = p := by funext m; cases p m <;> rfl
theorem bne_fn (p : Mu → Bool) : (fun m => p m == false) = fun m => !p m := by funext m; cases p m <;> rfl
theorem c_rsame {w : World} {v v' : Value} {l : List Mu} (h : Reads w v l) (h' : Reads w v' l) (hs : ∀ m ∈ l, Small m) : Calls Tryz.prog 21 #[v, v'] w (RetB true w) := by
  obtain ⟨R, e, h⟩ := h
  obtain ⟨R', e', h'⟩ := h'
  have := refsame_any v v' R R' w h h' (fun x hx => hs _ (e ▸ List.mem_map.2 ⟨x, hx, rfl⟩)) (fun x hx => hs _ (e' ▸ List.mem_map.2 ⟨x, hx, rfl⟩))
  rw [(eqF_iff _ _).2 (e.trans e'.symm)] at this
  exact this
theorem c_cov {c : Con} {n : Nat} {v : Value} {w : World} (key : ByteArray) (s : Stp) (hv : IsC c v w) (h : Good c n) (hn : n ≤ 1000000) : Calls Tryz.prog 26 #[v, .string key, vS s] w (RetB (c.wipes.any fun x => hitsB x key s) w) := by
  obtain ⟨a, b, d, rfl, hl⟩ := hv
  exact covered_any a b d c.wipes key s w hl.wipes (by have := h.okc.lens; omega)
theorem c_hit {l : List Mu} {v : Value} {w : World} (key : ByteArray) (s : Stp) (hv : Reads w v l) (hn : l.length ≤ 1000000) : Calls Tryz.prog 27 #[v, .string key, vS s] w (RetB (l.any fun x => hitsB x key s) w) := by
  obtain ⟨R, rfl, hR⟩ := hv
  exact refhit_any v R key s w hR (by simpa using hn)

set_option maxHeartbeats 8000000 in
set_option maxRecDepth 100000 in
theorem parts_any (v1 : Value) (A : List Ro) (key : ByteArray) (s : Stp) (w : World) (hT : Tabs w) (hA : MRow w v1 A) (zA : ∀ x ∈ A, x.1.key.size ≤ maxLen ∧ x.1.fin.size ≤ maxLen ∧ x.1.val.size ≤ maxLen) :
    Calls Tryz.prog 5 #[v1, .string key, vS s] w (RetB true w) := by
  have HGa := Lib.hid (fun (W : World) (hW : RowKit.Below w.heap.size w W) => great_any v1 A 40 W (hA.below hW) (by decide) zA)
  obtain ⟨ga, hga⟩ : ∃ q, q = greatF (A.map (·.1)) 40 := ⟨_, rfl⟩
  rw [← hga] at HGa
  obtain ⟨la, hla⟩ : ∃ l, l = A.map (·.1) := ⟨_, rfl⟩
  rw [← hla] at hga
  have HRA := Lib.hid (show Reads w v1 la from ⟨A, hla.symm, hA⟩)
  obtain ⟨ao, ac, rfl, -, -⟩ := hA.form
  obtain ⟨na, hna⟩ : ∃ k, k = A.length := ⟨_, rfl⟩
  rw [← hna] at HGa HRA ⊢
  have HT := Lib.hid hT
  have HGG := Lib.hid hga
  clear hT hA zA hga hna hla
  obtain ⟨x, hx⟩ : ∃ x, x = leftOf la := ⟨_, rfl⟩
  have HXY := Lib.hid hx
  clear hx
  obtain ⟨sp, sl, sw⟩ := s
  obtain ⟨p, hp⟩ : ∃ p : Mu → Bool, p = fun m => decide (stC ⟨sp, sl, sw⟩ m.at_ < 0) := ⟨_, rfl⟩
  have HAb := Lib.hid (fun (c : Con) (n : Nat) (v : Value) (W : World) (hv : IsC c v W) (h : Good c n) (hn : n ≤ 100000) => show Calls Tryz.prog 18 #[v, .agg #[.int .i64 sp, .int .i64 sl, .int .i64 sw]] W (RetC (c.filter p) W) from by rw [hp]; exact c_above ⟨sp, sl, sw⟩ hv h hn)
  have HUp := Lib.hid (fun (c : Con) (n : Nat) (v : Value) (W : World) (hv : IsC c v W) (h : Good c n) (hn : n ≤ 100000) => show Calls Tryz.prog 19 #[v, .agg #[.int .i64 sp, .int .i64 sl, .int .i64 sw]] W (RetC (c.filter fun m => !p m) W) from by rw [hp]; exact c_upto ⟨sp, sl, sw⟩ hv h hn)
  have HSt := Lib.hid (fun (c : Con) (n : Nat) (v : Value) (W : World) (hv : IsC c v W) (h : Good c n) (hn : n ≤ 100000) => show Calls Tryz.prog 15 #[v, .agg #[.int .i64 sp, .int .i64 sl, .int .i64 sw], .bool true] W (RetC (c.filter p) W) from by
    rw [← beq_fn p, hp]; exact c_refsplit ⟨sp, sl, sw⟩ true hv h hn)
  have HSf := Lib.hid (fun (c : Con) (n : Nat) (v : Value) (W : World) (hv : IsC c v W) (h : Good c n) (hn : n ≤ 100000) => show Calls Tryz.prog 15 #[v, .agg #[.int .i64 sp, .int .i64 sl, .int .i64 sw], .bool false] W (RetC (c.filter fun m => !p m) W) from by
    rw [← bne_fn p, hp]; exact c_refsplit ⟨sp, sl, sw⟩ false hv h hn)
  clear hp
  unfold vS
  simp only []
  obtain ⟨W0, hW0⟩ : ∃ W0, W0 = w.alloc (.cells #[.int .i64 sp, .int .i64 sl, .int .i64 sw] 26) := ⟨_, rfl⟩
  have z0 : W0.cell? ⟨w.heap.size, 0, none⟩ = some (.int .i64 sp) := by rw [hW0]; go_simp
  have z1 : W0.cell? ⟨w.heap.size, 1, none⟩ = some (.int .i64 sl) := by rw [hW0]; go_simp
  have z2 : W0.cell? ⟨w.heap.size, 2, none⟩ = some (.int .i64 sw) := by rw [hW0]; go_simp
  have hz : w.heap.size < W0.heap.size := by rw [hW0]; simp
  have HB0 := Lib.hid (show RowKit.Below w.heap.size w W0 by rw [hW0]; exact (Below.refl _ w).alloc (Nat.le_refl _) _)
  obtain ⟨n0, hn0⟩ : ∃ n0, n0 = w.heap.size := ⟨_, rfl⟩
  rw [← hn0] at z0 z1 z2 hz
  have HZ := Lib.hid (show ∀ W, RowKit.Below W0.heap.size W0 W → W.cell? ⟨n0, 0, none⟩ = some (.int .i64 sp) ∧ W.cell? ⟨n0, 1, none⟩ = some (.int .i64 sl) ∧ W.cell? ⟨n0, 2, none⟩ = some (.int .i64 sw) from fun W h => ⟨(h.cell (p := ⟨n0, 0, none⟩) hz).trans z0, (h.cell (p := ⟨n0, 1, none⟩) hz).trans z1, (h.cell (p := ⟨n0, 2, none⟩) hz).trans z2⟩)
  have HE0 := Lib.hid (Below.refl W0.heap.size W0)
  have HW0 := Lib.hid hW0
  have HN0 := Lib.hid hn0
  clear z0 z1 z2 hz hW0 hn0
  go_enter Tryz.func5, Tryz.ntmps5
  go_upto_region 1 with fail
  rw [← HW0.out, ← HN0.out]
  clear HW0
  go_wp2_with fail
  refine (HGa.out _ HB0.out).mono ?_
  rintro e w1 ⟨rfl, rfl⟩
  cases ga
  case true =>
    go_wp2_with fail
    go_ret
    exact ⟨rfl, HB0.out⟩
  obtain ⟨lA, sA⟩ := great_small HGG.out.symm
  have HO := Lib.hid (show ∀ W, RowKit.Below w.heap.size w W → Calls Tryz.prog 9 #[.slice ao na ac] W (RetC x W) ∧ Calls Tryz.prog 10 #[.slice ao na ac] W (RetC x W) from by
    rw [HXY.out]
    exact fun W h => ⟨c_of (HT.out.below h) (HRA.out.below h) (by omega) sA, c_refof (HT.out.below h) (HRA.out.below h) (by omega) sA⟩)
  have HG := Lib.hid (show Good x 40 from by rw [HXY.out]; exact (leftOf_good la).more lA)
  clear lA sA HGG HGa HRA HXY
  go_wp2_with fail
  refine (HO.out _ HB0.out).1.mono ?_
  rintro e w1 ⟨vv, rfl, hl, hb⟩
  obtain ⟨p1, q1, r1, p2, q2, r2, p3, q3, r3, rfl, hl1⟩ := hl.form
  have HLx0 := Lib.hid hl1
  have HB1 := Lib.hid (below_then HB0.out (Nat.le_refl _) hb)
  have HE1 := Lib.hid (below_then HE0.out (Nat.le_refl _) hb)
  clear hl hb hl1
  go_wp2_with fail
  refine (HO.out _ HB1.out).2.mono ?_
  rintro e w2 ⟨vv, rfl, hl, hb⟩
  obtain ⟨p4, q4, r4, p5, q5, r5, p6, q6, r6, rfl, hl1⟩ := hl.form
  have HLu0 := Lib.hid hl1
  have HLx1 := Lib.hid (HLx0.out.below hb)
  have HB2 := Lib.hid (below_then HB1.out (Nat.le_refl _) hb)
  have HE2 := Lib.hid (below_then HE1.out (Nat.le_refl _) hb)
  clear hl hb hl1 HLx0
  go_upto_region 4 with fail
  obtain ⟨W3, hW⟩ : ∃ W, W = ((w2.alloc (.cells #[.slice p1 q1 r1, .slice p2 q2 r2, .slice p3 q3 r3] 32)).alloc (.cells #[.slice p4 q4 r4, .slice p5 q5 r5, .slice p6 q6 r6] 34)) := ⟨_, rfl⟩
  rw [← hW]
  have hb3 : RowKit.Below w2.heap.size w2 W3 := by rw [hW]; exact ((Below.refl _ _).alloc (Nat.le_refl _) _).alloc (by simp) _
  have x3 : C3 W3 w2.heap.size (.slice p1 q1 r1) (.slice p2 q2 r2) (.slice p3 q3 r3) := by
    rw [hW]
    exact (C3.new w2 _ _ _).below ((Below.refl _ _).alloc (Nat.le_refl _) _)
  have u3 : C3 W3 (w2.heap.size + 1) (.slice p4 q4 r4) (.slice p5 q5 r5) (.slice p6 q6 r6) := by
    rw [hW]
    have := C3.newR (w2.alloc (.cells #[.slice p1 q1 r1, .slice p2 q2 r2, .slice p3 q3 r3] 32)) (.slice p4 q4 r4) (.slice p5 q5 r5) (.slice p6 q6 r6)
    rwa [World.size_alloc] at this
  have HLx := Lib.hid (HLx1.out.below hb3)
  have HLu := Lib.hid (HLu0.out.below hb3)
  have HB3 := Lib.hid (below_then HB2.out (Nat.le_refl _) hb3)
  have HE3 := Lib.hid (below_then HE2.out (Nat.le_refl _) hb3)
  obtain ⟨n2, hn⟩ : ∃ n, n = w2.heap.size := ⟨_, rfl⟩
  rw [← hn] at x3 u3 ⊢
  have HCx := Lib.hid x3
  have HCu := Lib.hid u3
  clear hW hb3 x3 u3 hn HLx1 HLu0
  have HZ3 := Lib.hid (fun W (h : RowKit.Below W3.heap.size W3 W) => HZ.out W (below_then HE3.out (Nat.le_refl _) h))
  have HI := Lib.hid (fun W (h : RowKit.Below W3.heap.size W3 W) => And.intro (HLx.out.below h).is (HLu.out.below h).is)
  have HTW := Lib.hid (fun W (h : RowKit.Below W3.heap.size W3 W) => HT.out.below (below_then HB3.out (Nat.le_refl _) h))
  have HSA := Lib.hid (show (∀ m ∈ allF x, Small m) ∧ (∀ m ∈ ownF x key, Small m) ∧ x.wipes.length ≤ 1000000 from ⟨fun m hm => small_right (HG.out.okc.right m (mem_allF.1 hm)), fun m hm => small_right (HG.out.okc.right m (Con.mem_all.2 (Or.inr (Or.inr (List.mem_filter.1 hm).1)))), by have := HG.out.okc.lens; omega⟩)
  obtain ⟨bq1, hq1⟩ : ∃ q, q = x.wipes.any fun m => hitsB m key ⟨sp, sl, sw⟩ := ⟨_, rfl⟩
  obtain ⟨bq2, hq2⟩ : ∃ q, q = supF x key ⟨sp, sl, sw⟩ := ⟨_, rfl⟩
  have HC1 := Lib.hid (show ∀ W, RowKit.Below W3.heap.size W3 W → Calls Tryz.prog 26 #[.agg #[.slice p1 q1 r1, .slice p2 q2 r2, .slice p3 q3 r3], .string key, .agg #[.int .i64 sp, .int .i64 sl, .int .i64 sw]] W (RetB bq1 W) ∧ Calls Tryz.prog 27 #[.slice p5 q5 r5, .string key, .agg #[.int .i64 sp, .int .i64 sl, .int .i64 sw]] W (RetB bq1 W) from fun W h => by
    rw [hq1]
    exact ⟨c_cov (n := 40) key ⟨sp, sl, sw⟩ (HI.out W h).1 HG.out (by decide), c_hit key ⟨sp, sl, sw⟩ (HLu.out.below h).wipes HSA.out.2.2⟩)
  have HC2 := Lib.hid (show ∀ W, RowKit.Below W3.heap.size W3 W → Calls Tryz.prog 28 #[.agg #[.slice p1 q1 r1, .slice p2 q2 r2, .slice p3 q3 r3], .string key, .agg #[.int .i64 sp, .int .i64 sl, .int .i64 sw]] W (RetB bq2 W) ∧ Calls Tryz.prog 29 #[.agg #[.slice p4 q4 r4, .slice p5 q5 r5, .slice p6 q6 r6], .string key, .agg #[.int .i64 sp, .int .i64 sl, .int .i64 sw]] W (RetB bq2 W) from fun W h => by
    rw [hq2]
    exact ⟨c_sup (n := 40) key ⟨sp, sl, sw⟩ (HI.out W h).1 HG.out (by decide), c_refsup (m := 40) key ⟨sp, sl, sw⟩ (HI.out W h).2 HG.out (by decide)⟩)
  clear hq1 hq2
  go_wp2_with fail
  refine wp_region_told [] 38 [false, false, false, false, false, false, false, false, false, false, false, false, false, false, false, true, true, true, true, true, true, true, true, true, true, true, true, true, true, true, true, true, true, true, true, true, true, true, true, true, true, true, true, true, true, true, true, true, true, true, true, true, true, false, false, false, false, false, false, false, false, false, false, false, false, false, false, false, false, false, false, false, false, false, false, false, false, false, false, false, false, false, false]
    [sLit (.agg #[.slice p1 q1 r1, .slice p2 q2 r2, .slice p3 q3 r3]),
    sOne (fun v W => Reads W v (allF x)) (fun _ _ _ h hb => h.below hb),
    sLit (.agg #[.slice p4 q4 r4, .slice p5 q5 r5, .slice p6 q6 r6]),
    sOne (fun v W => Reads W v (allF x)) (fun _ _ _ h hb => h.below hb),
    sLit (.bool true),
    sLit (.bool false),
    sLit (.bool false),
    sLit (.agg #[.slice p1 q1 r1, .slice p2 q2 r2, .slice p3 q3 r3]),
    sLit (.string key),
    sOne (fun v W => Reads W v (ownF x key)) (fun _ _ _ h hb => h.below hb),
    sLit (.agg #[.slice p4 q4 r4, .slice p5 q5 r5, .slice p6 q6 r6]),
    sLit (.string key),
    sOne (fun v W => Reads W v (ownF x key)) (fun _ _ _ h hb => h.below hb),
    sLit (.bool true),
    sLit (.bool false),
    sLit (.bool false),
    sLit (.bool false),
    sLit (.agg #[.slice p1 q1 r1, .slice p2 q2 r2, .slice p3 q3 r3]),
    sLit (.string key),
    sLit (.agg #[.int .i64 sp, .int .i64 sl, .int .i64 sw]),
    sLit (.bool bq1),
    sLit (.pointer (some ⟨n2 + 1, 1, none⟩)),
    sLit (.slice p5 q5 r5),
    sLit (.string key),
    sLit (.agg #[.int .i64 sp, .int .i64 sl, .int .i64 sw]),
    sLit (.bool bq1),
    sLit (.bool false),
    sLit (.bool false),
    sLit (.bool false),
    sLit (.agg #[.slice p1 q1 r1, .slice p2 q2 r2, .slice p3 q3 r3]),
    sLit (.string key),
    sLit (.agg #[.int .i64 sp, .int .i64 sl, .int .i64 sw]),
    sLit (.bool bq2),
    sLit (.agg #[.slice p4 q4 r4, .slice p5 q5 r5, .slice p6 q6 r6]),
    sLit (.string key),
    sLit (.agg #[.int .i64 sp, .int .i64 sl, .int .i64 sw]),
    sLit (.bool bq2),
    sLit (.bool false)] (by kernel_rfl) (by kernel_rfl) (by kernel_rfl) (fun F hF => ?_)
  simp only [over, overL, Nat.reduceAdd] at hF
  obtain rfl := funext hF
  clear hF
  refine ⟨⟨?_, ?_, ?_, ?_, ?_, ?_, ?_, ?_, ?_, ?_, ?_, ?_, ?_, ?_, ?_, ?_, ?_, ?_, ?_, ?_, ?_, ?_, ?_, ?_, ?_, ?_, ?_, ?_, ?_, ?_, ?_, ?_, ?_, ?_, ?_, ?_, ?_, ?_, trivial⟩, ?_⟩
  · intro V W hb hd K hK _
    clear hd
    obtain ⟨-, s0, s1, s2, -⟩ := HCx.out.below hb
    go_wp2_with fail
    refine hK _ _ ?_ ?_ ?_ ?_
    · rfl
    · exact Below.refl _ _
    · exact rfl
    · trivial
  · intro V W hb hd K hK _
    have h0 : (V 15) = .agg #[.slice p1 q1 r1, .slice p2 q2 r2, .slice p3 q3 r3] := hd 0 (by kernel_rfl)
    clear hd
    go_wp2_with fail
    refine (c_all (n := 40) (HI.out W hb).1 HG.out (by decide)).mono ?_
    rintro e w1 ⟨g1, c1, R1, rfl, hcp, hm1, hb1⟩
    go_wp2_with fail
    refine hK _ _ ?_ ?_ ?_ ?_
    · rfl
    · exact hb1
    · exact ⟨R1, hm1, hcp.mrow⟩
    · trivial
  · intro V W hb hd K hK _
    clear hd
    obtain ⟨-, s0, s1, s2, -⟩ := HCu.out.below hb
    go_wp2_with fail
    refine hK _ _ ?_ ?_ ?_ ?_
    · rfl
    · exact Below.refl _ _
    · exact rfl
    · trivial
  · intro V W hb hd K hK _
    have h2 : (V 17) = .agg #[.slice p4 q4 r4, .slice p5 q5 r5, .slice p6 q6 r6] := hd 2 (by kernel_rfl)
    clear hd
    go_wp2_with fail
    refine (c_refall (n := 40) (HI.out W hb).2 HG.out (by decide)).mono ?_
    rintro e w1 ⟨v1, rfl, hv1, hb1⟩
    go_wp2_with fail
    refine hK _ _ ?_ ?_ ?_ ?_
    · rfl
    · exact hb1
    · exact hv1
    · trivial
  · intro V W hb hd K hK _
    have h1 : Reads W (V 16) (allF x) := hd 1 (by kernel_rfl)
    have h3 : Reads W (V 18) (allF x) := hd 3 (by kernel_rfl)
    clear hd
    go_wp2_with fail
    refine (c_rsame h1 h3 HSA.out.1).mono ?_
    rintro e w1 ⟨rfl, hb1⟩
    go_wp2_with fail
    refine hK _ _ ?_ ?_ ?_ ?_
    · rfl
    · exact hb1
    · exact rfl
    · trivial
  · intro V W hb hd K hK _
    have h4 : (V 19) = .bool true := hd 4 (by kernel_rfl)
    clear hd
    go_wp2_with fail
    refine hK _ _ ?_ ?_ ?_ ?_
    · rfl
    · exact Below.refl _ _
    · exact rfl
    · trivial
  · intro V W hb hd K hK _
    have h5 : (V 20) = .bool false := hd 5 (by kernel_rfl)
    clear hd
    go_wp2_with fail
    refine hK _ _ ?_ ?_ ?_ ?_
    · rfl
    · exact Below.refl _ _
    · exact rfl
    · trivial
  · intro V W hb hd K hK _
    have h6 : (V 21) = .bool false := hd 6 (by kernel_rfl)
    clear hd
    obtain ⟨-, s0, s1, s2, -⟩ := HCx.out.below hb
    go_wp2_with fail
    refine hK _ _ ?_ ?_ ?_ ?_
    · rfl
    · exact Below.refl _ _
    · exact rfl
    · trivial
  · intro V W hb hd K hK _
    have h6 : (V 21) = .bool false := hd 6 (by kernel_rfl)
    clear hd
    go_wp2_with fail
    refine hK _ _ ?_ ?_ ?_ ?_
    · rfl
    · exact Below.refl _ _
    · exact rfl
    · trivial
  · intro V W hb hd K hK _
    have h6 : (V 21) = .bool false := hd 6 (by kernel_rfl)
    have h7 : (V 22) = .agg #[.slice p1 q1 r1, .slice p2 q2 r2, .slice p3 q3 r3] := hd 7 (by kernel_rfl)
    have h8 : (V 23) = .string key := hd 8 (by kernel_rfl)
    clear hd
    go_wp2_with fail
    refine (c_own (n := 40) key (HI.out W hb).1 HG.out (by decide)).mono ?_
    rintro e w1 ⟨v1, rfl, hv1, hb1⟩
    go_wp2_with fail
    refine hK _ _ ?_ ?_ ?_ ?_
    · rfl
    · exact hb1
    · exact hv1
    · trivial
  · intro V W hb hd K hK _
    have h6 : (V 21) = .bool false := hd 6 (by kernel_rfl)
    clear hd
    obtain ⟨-, s0, s1, s2, -⟩ := HCu.out.below hb
    go_wp2_with fail
    refine hK _ _ ?_ ?_ ?_ ?_
    · rfl
    · exact Below.refl _ _
    · exact rfl
    · trivial
  · intro V W hb hd K hK _
    have h6 : (V 21) = .bool false := hd 6 (by kernel_rfl)
    clear hd
    go_wp2_with fail
    refine hK _ _ ?_ ?_ ?_ ?_
    · rfl
    · exact Below.refl _ _
    · exact rfl
    · trivial
  · intro V W hb hd K hK _
    have h6 : (V 21) = .bool false := hd 6 (by kernel_rfl)
    have h10 : (V 25) = .agg #[.slice p4 q4 r4, .slice p5 q5 r5, .slice p6 q6 r6] := hd 10 (by kernel_rfl)
    have h11 : (V 26) = .string key := hd 11 (by kernel_rfl)
    clear hd
    go_wp2_with fail
    refine (c_refown (m := 40) key (HI.out W hb).2 HG.out (by decide)).mono ?_
    rintro e w1 ⟨v1, rfl, hv1, hb1⟩
    go_wp2_with fail
    refine hK _ _ ?_ ?_ ?_ ?_
    · rfl
    · exact hb1
    · exact hv1
    · trivial
  · intro V W hb hd K hK _
    have h6 : (V 21) = .bool false := hd 6 (by kernel_rfl)
    have h9 : Reads W (V 24) (ownF x key) := hd 9 (by kernel_rfl)
    have h12 : Reads W (V 27) (ownF x key) := hd 12 (by kernel_rfl)
    clear hd
    go_wp2_with fail
    refine (c_rsame h9 h12 HSA.out.2.1).mono ?_
    rintro e w1 ⟨rfl, hb1⟩
    go_wp2_with fail
    refine hK _ _ ?_ ?_ ?_ ?_
    · rfl
    · exact hb1
    · exact rfl
    · trivial
  · intro V W hb hd K hK _
    have h6 : (V 21) = .bool false := hd 6 (by kernel_rfl)
    have h13 : (V 28) = .bool true := hd 13 (by kernel_rfl)
    clear hd
    go_wp2_with fail
    refine hK _ _ ?_ ?_ ?_ ?_
    · rfl
    · exact Below.refl _ _
    · exact rfl
    · trivial
  · intro V W hb hd K hK _
    have h6 : (V 21) = .bool false := hd 6 (by kernel_rfl)
    have h14 : (V 29) = .bool false := hd 14 (by kernel_rfl)
    clear hd
    go_wp2_with fail
    refine hK _ _ ?_ ?_ ?_ ?_
    · rfl
    · exact Below.refl _ _
    · exact rfl
    · trivial
  · intro V W hb hd K hK _
    have h15 : (V 30) = .bool false := hd 15 (by kernel_rfl)
    clear hd
    go_wp2_with fail
    refine hK _ _ ?_ ?_ ?_ ?_
    · rfl
    · exact Below.refl _ _
    · exact rfl
    · trivial
  · intro V W hb hd K hK _
    have h16 : (V 31) = .bool false := hd 16 (by kernel_rfl)
    clear hd
    obtain ⟨-, s0, s1, s2, -⟩ := HCx.out.below hb
    go_wp2_with fail
    refine hK _ _ ?_ ?_ ?_ ?_
    · rfl
    · exact Below.refl _ _
    · exact rfl
    · trivial
  · intro V W hb hd K hK _
    have h16 : (V 31) = .bool false := hd 16 (by kernel_rfl)
    clear hd
    go_wp2_with fail
    refine hK _ _ ?_ ?_ ?_ ?_
    · rfl
    · exact Below.refl _ _
    · exact rfl
    · trivial
  · intro V W hb hd K hK _
    have h16 : (V 31) = .bool false := hd 16 (by kernel_rfl)
    clear hd
    obtain ⟨z0, z1, z2⟩ := (HZ3.out W hb)
    go_wp2_with fail
    refine hK _ _ ?_ ?_ ?_ ?_
    · rfl
    · exact Below.refl _ _
    · exact rfl
    · trivial
  · intro V W hb hd K hK _
    have h16 : (V 31) = .bool false := hd 16 (by kernel_rfl)
    have h17 : (V 32) = .agg #[.slice p1 q1 r1, .slice p2 q2 r2, .slice p3 q3 r3] := hd 17 (by kernel_rfl)
    have h18 : (V 33) = .string key := hd 18 (by kernel_rfl)
    have h19 : (V 34) = .agg #[.int .i64 sp, .int .i64 sl, .int .i64 sw] := hd 19 (by kernel_rfl)
    clear hd
    go_wp2_with fail
    refine ((HC1.out W hb).1).mono ?_
    rintro e w1 ⟨rfl, hb1⟩
    go_wp2_with fail
    refine hK _ _ ?_ ?_ ?_ ?_
    · rfl
    · exact hb1
    · exact rfl
    · trivial
  · intro V W hb hd K hK _
    have h16 : (V 31) = .bool false := hd 16 (by kernel_rfl)
    clear hd
    go_wp2_with fail
    refine hK _ _ ?_ ?_ ?_ ?_
    · rfl
    · exact Below.refl _ _
    · exact rfl
    · trivial
  · intro V W hb hd K hK _
    have h16 : (V 31) = .bool false := hd 16 (by kernel_rfl)
    have h21 : (V 36) = .pointer (some ⟨n2 + 1, 1, none⟩) := hd 21 (by kernel_rfl)
    clear hd
    obtain ⟨-, s0, s1, s2, -⟩ := HCu.out.below hb
    go_wp2_with fail
    refine hK _ _ ?_ ?_ ?_ ?_
    · rfl
    · exact Below.refl _ _
    · exact rfl
    · trivial
  · intro V W hb hd K hK _
    have h16 : (V 31) = .bool false := hd 16 (by kernel_rfl)
    clear hd
    go_wp2_with fail
    refine hK _ _ ?_ ?_ ?_ ?_
    · rfl
    · exact Below.refl _ _
    · exact rfl
    · trivial
  · intro V W hb hd K hK _
    have h16 : (V 31) = .bool false := hd 16 (by kernel_rfl)
    clear hd
    obtain ⟨z0, z1, z2⟩ := (HZ3.out W hb)
    go_wp2_with fail
    refine hK _ _ ?_ ?_ ?_ ?_
    · rfl
    · exact Below.refl _ _
    · exact rfl
    · trivial
  · intro V W hb hd K hK _
    have h16 : (V 31) = .bool false := hd 16 (by kernel_rfl)
    have h22 : (V 37) = .slice p5 q5 r5 := hd 22 (by kernel_rfl)
    have h23 : (V 38) = .string key := hd 23 (by kernel_rfl)
    have h24 : (V 39) = .agg #[.int .i64 sp, .int .i64 sl, .int .i64 sw] := hd 24 (by kernel_rfl)
    clear hd
    go_wp2_with fail
    refine ((HC1.out W hb).2).mono ?_
    rintro e w1 ⟨rfl, hb1⟩
    go_wp2_with fail
    refine hK _ _ ?_ ?_ ?_ ?_
    · rfl
    · exact hb1
    · exact rfl
    · trivial
  · intro V W hb hd K hK _
    have h16 : (V 31) = .bool false := hd 16 (by kernel_rfl)
    have h20 : (V 35) = .bool bq1 := hd 20 (by kernel_rfl)
    have h25 : (V 40) = .bool bq1 := hd 25 (by kernel_rfl)
    clear hd
    cases bq1
    all_goals
      go_wp2_with fail
      refine hK _ _ ?_ ?_ ?_ ?_
      · rfl
      · exact Below.refl _ _
      · rfl
      · trivial
  · intro V W hb hd K hK _
    have h16 : (V 31) = .bool false := hd 16 (by kernel_rfl)
    have h26 : (V 41) = .bool false := hd 26 (by kernel_rfl)
    clear hd
    go_wp2_with fail
    refine hK _ _ ?_ ?_ ?_ ?_
    · rfl
    · exact Below.refl _ _
    · exact rfl
    · trivial
  · intro V W hb hd K hK _
    have h27 : (V 42) = .bool false := hd 27 (by kernel_rfl)
    clear hd
    go_wp2_with fail
    refine hK _ _ ?_ ?_ ?_ ?_
    · rfl
    · exact Below.refl _ _
    · exact rfl
    · trivial
  · intro V W hb hd K hK _
    have h28 : (V 43) = .bool false := hd 28 (by kernel_rfl)
    clear hd
    obtain ⟨-, s0, s1, s2, -⟩ := HCx.out.below hb
    go_wp2_with fail
    refine hK _ _ ?_ ?_ ?_ ?_
    · rfl
    · exact Below.refl _ _
    · exact rfl
    · trivial
  · intro V W hb hd K hK _
    have h28 : (V 43) = .bool false := hd 28 (by kernel_rfl)
    clear hd
    go_wp2_with fail
    refine hK _ _ ?_ ?_ ?_ ?_
    · rfl
    · exact Below.refl _ _
    · exact rfl
    · trivial
  · intro V W hb hd K hK _
    have h28 : (V 43) = .bool false := hd 28 (by kernel_rfl)
    clear hd
    obtain ⟨z0, z1, z2⟩ := (HZ3.out W hb)
    go_wp2_with fail
    refine hK _ _ ?_ ?_ ?_ ?_
    · rfl
    · exact Below.refl _ _
    · exact rfl
    · trivial
  · intro V W hb hd K hK _
    have h28 : (V 43) = .bool false := hd 28 (by kernel_rfl)
    have h29 : (V 44) = .agg #[.slice p1 q1 r1, .slice p2 q2 r2, .slice p3 q3 r3] := hd 29 (by kernel_rfl)
    have h30 : (V 45) = .string key := hd 30 (by kernel_rfl)
    have h31 : (V 46) = .agg #[.int .i64 sp, .int .i64 sl, .int .i64 sw] := hd 31 (by kernel_rfl)
    clear hd
    go_wp2_with fail
    refine ((HC2.out W hb).1).mono ?_
    rintro e w1 ⟨rfl, hb1⟩
    go_wp2_with fail
    refine hK _ _ ?_ ?_ ?_ ?_
    · rfl
    · exact hb1
    · exact rfl
    · trivial
  · intro V W hb hd K hK _
    have h28 : (V 43) = .bool false := hd 28 (by kernel_rfl)
    clear hd
    obtain ⟨-, s0, s1, s2, -⟩ := HCu.out.below hb
    go_wp2_with fail
    refine hK _ _ ?_ ?_ ?_ ?_
    · rfl
    · exact Below.refl _ _
    · exact rfl
    · trivial
  · intro V W hb hd K hK _
    have h28 : (V 43) = .bool false := hd 28 (by kernel_rfl)
    clear hd
    go_wp2_with fail
    refine hK _ _ ?_ ?_ ?_ ?_
    · rfl
    · exact Below.refl _ _
    · exact rfl
    · trivial
  · intro V W hb hd K hK _
    have h28 : (V 43) = .bool false := hd 28 (by kernel_rfl)
    clear hd
    obtain ⟨z0, z1, z2⟩ := (HZ3.out W hb)
    go_wp2_with fail
    refine hK _ _ ?_ ?_ ?_ ?_
    · rfl
    · exact Below.refl _ _
    · exact rfl
    · trivial
  · intro V W hb hd K hK _
    have h28 : (V 43) = .bool false := hd 28 (by kernel_rfl)
    have h33 : (V 48) = .agg #[.slice p4 q4 r4, .slice p5 q5 r5, .slice p6 q6 r6] := hd 33 (by kernel_rfl)
    have h34 : (V 49) = .string key := hd 34 (by kernel_rfl)
    have h35 : (V 50) = .agg #[.int .i64 sp, .int .i64 sl, .int .i64 sw] := hd 35 (by kernel_rfl)
    clear hd
    go_wp2_with fail
    refine ((HC2.out W hb).2).mono ?_
    rintro e w1 ⟨rfl, hb1⟩
    go_wp2_with fail
    refine hK _ _ ?_ ?_ ?_ ?_
    · rfl
    · exact hb1
    · exact rfl
    · trivial
  · intro V W hb hd K hK _
    have h28 : (V 43) = .bool false := hd 28 (by kernel_rfl)
    have h32 : (V 47) = .bool bq2 := hd 32 (by kernel_rfl)
    have h36 : (V 51) = .bool bq2 := hd 36 (by kernel_rfl)
    clear hd
    cases bq2
    all_goals
      go_wp2_with fail
      refine hK _ _ ?_ ?_ ?_ ?_
      · rfl
      · exact Below.refl _ _
      · rfl
      · trivial
  · intro V W hb hd hap
    have h28 : (V 43) = .bool false := hd 28 (by decide)
    have h37 : (V 52) = .bool false := hd 37 (by decide)
    clear hd hap
    simp only [List.drop_succ_cons, List.drop_zero]
    obtain ⟨W4, hW4⟩ : ∃ W4, W4 = W := ⟨_, rfl⟩
    rw [← hW4] at hb ⊢
    have HX := Lib.hid hb
    clear hb hW4
    have HI4 := Lib.hid (fun W (h : RowKit.Below W4.heap.size W4 W) => HI.out W (below_then HX.out (Nat.le_refl _) h))
    have HZ4 := Lib.hid (fun W (h : RowKit.Below W4.heap.size W4 W) => HZ3.out W (below_then HX.out (Nat.le_refl _) h))
    have HTW4 := Lib.hid (fun W (h : RowKit.Below W4.heap.size W4 W) => HTW.out W (below_then HX.out (Nat.le_refl _) h))
    have HF4 := Lib.hid (fun W (h : RowKit.Below W4.heap.size W4 W) => And.intro (HCx.out.below (below_then HX.out (Nat.le_refl _) h)) (HCu.out.below (below_then HX.out (Nat.le_refl _) h)))
    have HGu := Lib.hid (HG.out.filter p)
    have HGl := Lib.hid (HG.out.filter fun m => !p m)
    go_upto_region 6 with fail
    go_wp2_with fail
    refine wp_region_told [] 29 [false, false, false, false, false, false, false, false, false, false, false, false, false, false, false, false, false, false, false, false, false, false, false, false, false, false, false, false, false, false, false, false, false, false, false, false, false, false, false, false, false, false, false, false, false, false, false, false, false, false, false, false, false, false, true, true, true, true, true, true, true, true, true, true, true, true, true, true, true, true, true, true, true, true, true, true, true, true, true, true, true, true, true]
      [sLit (.agg #[.slice p1 q1 r1, .slice p2 q2 r2, .slice p3 q3 r3]),
    sLit (.agg #[.int .i64 sp, .int .i64 sl, .int .i64 sw]),
    sOne (IsC (x.filter p)) (fun _ _ _ h hb => h.below hb),
    sLit (.agg #[.slice p4 q4 r4, .slice p5 q5 r5, .slice p6 q6 r6]),
    sLit (.agg #[.int .i64 sp, .int .i64 sl, .int .i64 sw]),
    sOne (IsC (x.filter p)) (fun _ _ _ h hb => h.below hb),
    sLit (.bool true),
    sLit (.bool true),
    sLit (.agg #[.slice p1 q1 r1, .slice p2 q2 r2, .slice p3 q3 r3]),
    sLit (.agg #[.int .i64 sp, .int .i64 sl, .int .i64 sw]),
    sOne (IsC (x.filter fun m => !p m)) (fun _ _ _ h hb => h.below hb),
    sLit (.agg #[.slice p4 q4 r4, .slice p5 q5 r5, .slice p6 q6 r6]),
    sLit (.agg #[.int .i64 sp, .int .i64 sl, .int .i64 sw]),
    sOne (IsC (x.filter fun m => !p m)) (fun _ _ _ h hb => h.below hb),
    sLit (.bool true),
    sLit (.bool true),
    sLit (.bool true),
    sLit (.agg #[.slice p1 q1 r1, .slice p2 q2 r2, .slice p3 q3 r3]),
    sLit (.agg #[.slice p1 q1 r1, .slice p2 q2 r2, .slice p3 q3 r3]),
    sLit (.bool true),
    sLit (.bool true),
    sLit (.bool true),
    sLit (.agg #[.slice p1 q1 r1, .slice p2 q2 r2, .slice p3 q3 r3]),
    sLit (.agg #[.slice p4 q4 r4, .slice p5 q5 r5, .slice p6 q6 r6]),
    sLit (.bool true),
    sLit (.bool true),
    sLit (.bool true),
    sLit (.bool true),
    sLit (.bool true)] (by kernel_rfl) (by kernel_rfl) (by kernel_rfl) (fun F hF => ?_)
    simp only [over, overL, Nat.reduceAdd] at hF
    obtain rfl := funext hF
    clear hF
    refine ⟨⟨?_, ?_, ?_, ?_, ?_, ?_, ?_, ?_, ?_, ?_, ?_, ?_, ?_, ?_, ?_, ?_, ?_, ?_, ?_, ?_, ?_, ?_, ?_, ?_, ?_, ?_, ?_, ?_, ?_, trivial⟩, ?_⟩
    · intro V W hb hd K hK _
      clear hd
      obtain ⟨-, s0, s1, s2, -⟩ := (HF4.out W hb).1
      go_wp2_with fail
      refine hK _ _ ?_ ?_ ?_ ?_
      · rfl
      · exact Below.refl _ _
      · exact rfl
      · trivial
    · intro V W hb hd K hK _
      clear hd
      obtain ⟨z0, z1, z2⟩ := (HZ4.out W hb)
      go_wp2_with fail
      refine hK _ _ ?_ ?_ ?_ ?_
      · rfl
      · exact Below.refl _ _
      · exact rfl
      · trivial
    · intro V W hb hd K hK _
      have h0 : (V 54) = .agg #[.slice p1 q1 r1, .slice p2 q2 r2, .slice p3 q3 r3] := hd 0 (by kernel_rfl)
      have h1 : (V 55) = .agg #[.int .i64 sp, .int .i64 sl, .int .i64 sw] := hd 1 (by kernel_rfl)
      clear hd
      go_wp2_with fail
      refine (HAb.out x 40 _ _ (HI4.out W hb).1 HG.out (by decide)).mono ?_
      rintro e w1 ⟨v1, rfl, hv1, hb1⟩
      go_wp2_with fail
      refine hK _ _ ?_ ?_ ?_ ?_
      · rfl
      · exact hb1
      · exact hv1
      · trivial
    · intro V W hb hd K hK _
      clear hd
      obtain ⟨-, s0, s1, s2, -⟩ := (HF4.out W hb).2
      go_wp2_with fail
      refine hK _ _ ?_ ?_ ?_ ?_
      · rfl
      · exact Below.refl _ _
      · exact rfl
      · trivial
    · intro V W hb hd K hK _
      clear hd
      obtain ⟨z0, z1, z2⟩ := (HZ4.out W hb)
      go_wp2_with fail
      refine hK _ _ ?_ ?_ ?_ ?_
      · rfl
      · exact Below.refl _ _
      · exact rfl
      · trivial
    · intro V W hb hd K hK _
      have h3 : (V 57) = .agg #[.slice p4 q4 r4, .slice p5 q5 r5, .slice p6 q6 r6] := hd 3 (by kernel_rfl)
      have h4 : (V 58) = .agg #[.int .i64 sp, .int .i64 sl, .int .i64 sw] := hd 4 (by kernel_rfl)
      clear hd
      go_wp2_with fail
      refine (HSt.out x 40 _ _ (HI4.out W hb).2 HG.out (by decide)).mono ?_
      rintro e w1 ⟨v1, rfl, hv1, hb1⟩
      go_wp2_with fail
      refine hK _ _ ?_ ?_ ?_ ?_
      · rfl
      · exact hb1
      · exact hv1
      · trivial
    · intro V W hb hd K hK _
      have h2 : IsC (x.filter p) (V 56) W := hd 2 (by kernel_rfl)
      have h5 : IsC (x.filter p) (V 59) W := hd 5 (by kernel_rfl)
      clear hd
      go_wp2_with fail
      refine (c_is true ⟨fun _ => rfl, fun _ => rfl⟩ h2 HGu.out h5 HGu.out).mono ?_
      rintro e w1 ⟨rfl, hb1⟩
      go_wp2_with fail
      refine hK _ _ ?_ ?_ ?_ ?_
      · rfl
      · exact hb1
      · exact rfl
      · trivial
    · intro V W hb hd K hK _
      have h6 : (V 60) = .bool true := hd 6 (by kernel_rfl)
      clear hd
      go_wp2_with fail
      refine hK _ _ ?_ ?_ ?_ ?_
      · rfl
      · exact Below.refl _ _
      · exact rfl
      · trivial
    · intro V W hb hd K hK _
      have h7 : (V 61) = .bool true := hd 7 (by kernel_rfl)
      clear hd
      obtain ⟨-, s0, s1, s2, -⟩ := (HF4.out W hb).1
      go_wp2_with fail
      refine hK _ _ ?_ ?_ ?_ ?_
      · rfl
      · exact Below.refl _ _
      · exact rfl
      · trivial
    · intro V W hb hd K hK _
      have h7 : (V 61) = .bool true := hd 7 (by kernel_rfl)
      clear hd
      obtain ⟨z0, z1, z2⟩ := (HZ4.out W hb)
      go_wp2_with fail
      refine hK _ _ ?_ ?_ ?_ ?_
      · rfl
      · exact Below.refl _ _
      · exact rfl
      · trivial
    · intro V W hb hd K hK _
      have h7 : (V 61) = .bool true := hd 7 (by kernel_rfl)
      have h8 : (V 62) = .agg #[.slice p1 q1 r1, .slice p2 q2 r2, .slice p3 q3 r3] := hd 8 (by kernel_rfl)
      have h9 : (V 63) = .agg #[.int .i64 sp, .int .i64 sl, .int .i64 sw] := hd 9 (by kernel_rfl)
      clear hd
      go_wp2_with fail
      refine (HUp.out x 40 _ _ (HI4.out W hb).1 HG.out (by decide)).mono ?_
      rintro e w1 ⟨v1, rfl, hv1, hb1⟩
      go_wp2_with fail
      refine hK _ _ ?_ ?_ ?_ ?_
      · rfl
      · exact hb1
      · exact hv1
      · trivial
    · intro V W hb hd K hK _
      have h7 : (V 61) = .bool true := hd 7 (by kernel_rfl)
      clear hd
      obtain ⟨-, s0, s1, s2, -⟩ := (HF4.out W hb).2
      go_wp2_with fail
      refine hK _ _ ?_ ?_ ?_ ?_
      · rfl
      · exact Below.refl _ _
      · exact rfl
      · trivial
    · intro V W hb hd K hK _
      have h7 : (V 61) = .bool true := hd 7 (by kernel_rfl)
      clear hd
      obtain ⟨z0, z1, z2⟩ := (HZ4.out W hb)
      go_wp2_with fail
      refine hK _ _ ?_ ?_ ?_ ?_
      · rfl
      · exact Below.refl _ _
      · exact rfl
      · trivial
    · intro V W hb hd K hK _
      have h7 : (V 61) = .bool true := hd 7 (by kernel_rfl)
      have h11 : (V 65) = .agg #[.slice p4 q4 r4, .slice p5 q5 r5, .slice p6 q6 r6] := hd 11 (by kernel_rfl)
      have h12 : (V 66) = .agg #[.int .i64 sp, .int .i64 sl, .int .i64 sw] := hd 12 (by kernel_rfl)
      clear hd
      go_wp2_with fail
      refine (HSf.out x 40 _ _ (HI4.out W hb).2 HG.out (by decide)).mono ?_
      rintro e w1 ⟨v1, rfl, hv1, hb1⟩
      go_wp2_with fail
      refine hK _ _ ?_ ?_ ?_ ?_
      · rfl
      · exact hb1
      · exact hv1
      · trivial
    · intro V W hb hd K hK _
      have h7 : (V 61) = .bool true := hd 7 (by kernel_rfl)
      have h10 : IsC (x.filter fun m => !p m) (V 64) W := hd 10 (by kernel_rfl)
      have h13 : IsC (x.filter fun m => !p m) (V 67) W := hd 13 (by kernel_rfl)
      clear hd
      go_wp2_with fail
      refine (c_is true ⟨fun _ => rfl, fun _ => rfl⟩ h10 HGl.out h13 HGl.out).mono ?_
      rintro e w1 ⟨rfl, hb1⟩
      go_wp2_with fail
      refine hK _ _ ?_ ?_ ?_ ?_
      · rfl
      · exact hb1
      · exact rfl
      · trivial
    · intro V W hb hd K hK _
      have h7 : (V 61) = .bool true := hd 7 (by kernel_rfl)
      have h14 : (V 68) = .bool true := hd 14 (by kernel_rfl)
      clear hd
      go_wp2_with fail
      refine hK _ _ ?_ ?_ ?_ ?_
      · rfl
      · exact Below.refl _ _
      · exact rfl
      · trivial
    · intro V W hb hd K hK _
      have h15 : (V 69) = .bool true := hd 15 (by kernel_rfl)
      clear hd
      go_wp2_with fail
      refine hK _ _ ?_ ?_ ?_ ?_
      · rfl
      · exact Below.refl _ _
      · exact rfl
      · trivial
    · intro V W hb hd K hK _
      have h16 : (V 70) = .bool true := hd 16 (by kernel_rfl)
      clear hd
      obtain ⟨-, s0, s1, s2, -⟩ := (HF4.out W hb).1
      go_wp2_with fail
      refine hK _ _ ?_ ?_ ?_ ?_
      · rfl
      · exact Below.refl _ _
      · exact rfl
      · trivial
    · intro V W hb hd K hK _
      have h16 : (V 70) = .bool true := hd 16 (by kernel_rfl)
      clear hd
      obtain ⟨-, s0, s1, s2, -⟩ := (HF4.out W hb).1
      go_wp2_with fail
      refine hK _ _ ?_ ?_ ?_ ?_
      · rfl
      · exact Below.refl _ _
      · exact rfl
      · trivial
    · intro V W hb hd K hK _
      have h16 : (V 70) = .bool true := hd 16 (by kernel_rfl)
      have h17 : (V 71) = .agg #[.slice p1 q1 r1, .slice p2 q2 r2, .slice p3 q3 r3] := hd 17 (by kernel_rfl)
      have h18 : (V 72) = .agg #[.slice p1 q1 r1, .slice p2 q2 r2, .slice p3 q3 r3] := hd 18 (by kernel_rfl)
      clear hd
      go_wp2_with fail
      refine (c_same true ⟨fun _ => rfl, fun _ => rfl⟩ (HI4.out W hb).1 HG.out (HI4.out W hb).1 HG.out (by decide) (by decide)).mono ?_
      rintro e w1 ⟨rfl, hb1⟩
      go_wp2_with fail
      refine hK _ _ ?_ ?_ ?_ ?_
      · rfl
      · exact hb1
      · exact rfl
      · trivial
    · intro V W hb hd K hK _
      have h16 : (V 70) = .bool true := hd 16 (by kernel_rfl)
      have h19 : (V 73) = .bool true := hd 19 (by kernel_rfl)
      clear hd
      go_wp2_with fail
      refine hK _ _ ?_ ?_ ?_ ?_
      · rfl
      · exact Below.refl _ _
      · exact rfl
      · trivial
    · intro V W hb hd K hK _
      have h20 : (V 74) = .bool true := hd 20 (by kernel_rfl)
      clear hd
      go_wp2_with fail
      refine hK _ _ ?_ ?_ ?_ ?_
      · rfl
      · exact Below.refl _ _
      · exact rfl
      · trivial
    · intro V W hb hd K hK _
      have h21 : (V 75) = .bool true := hd 21 (by kernel_rfl)
      clear hd
      obtain ⟨-, s0, s1, s2, -⟩ := (HF4.out W hb).1
      go_wp2_with fail
      refine hK _ _ ?_ ?_ ?_ ?_
      · rfl
      · exact Below.refl _ _
      · exact rfl
      · trivial
    · intro V W hb hd K hK _
      have h21 : (V 75) = .bool true := hd 21 (by kernel_rfl)
      clear hd
      obtain ⟨-, s0, s1, s2, -⟩ := (HF4.out W hb).2
      go_wp2_with fail
      refine hK _ _ ?_ ?_ ?_ ?_
      · rfl
      · exact Below.refl _ _
      · exact rfl
      · trivial
    · intro V W hb hd K hK _
      have h21 : (V 75) = .bool true := hd 21 (by kernel_rfl)
      have h22 : (V 76) = .agg #[.slice p1 q1 r1, .slice p2 q2 r2, .slice p3 q3 r3] := hd 22 (by kernel_rfl)
      have h23 : (V 77) = .agg #[.slice p4 q4 r4, .slice p5 q5 r5, .slice p6 q6 r6] := hd 23 (by kernel_rfl)
      clear hd
      go_wp2_with fail
      refine (c_is true ⟨fun _ => rfl, fun _ => rfl⟩ (HI4.out W hb).1 HG.out (HI4.out W hb).2 HG.out).mono ?_
      rintro e w1 ⟨rfl, hb1⟩
      go_wp2_with fail
      refine hK _ _ ?_ ?_ ?_ ?_
      · rfl
      · exact hb1
      · exact rfl
      · trivial
    · intro V W hb hd K hK _
      have h21 : (V 75) = .bool true := hd 21 (by kernel_rfl)
      have h24 : (V 78) = .bool true := hd 24 (by kernel_rfl)
      clear hd
      go_wp2_with fail
      refine hK _ _ ?_ ?_ ?_ ?_
      · rfl
      · exact Below.refl _ _
      · exact rfl
      · trivial
    · intro V W hb hd K hK _
      have h25 : (V 79) = .bool true := hd 25 (by kernel_rfl)
      clear hd
      go_wp2_with fail
      refine hK _ _ ?_ ?_ ?_ ?_
      · rfl
      · exact Below.refl _ _
      · exact rfl
      · trivial
    · intro V W hb hd K hK _
      have h26 : (V 80) = .bool true := hd 26 (by kernel_rfl)
      clear hd
      go_wp2_with fail
      refine (alive_any W (HTW4.out W hb)).mono ?_
      rintro e w1 ⟨rfl, hb1⟩
      go_wp2_with fail
      refine hK _ _ ?_ ?_ ?_ ?_
      · rfl
      · exact hb1
      · exact rfl
      · trivial
    · intro V W hb hd K hK _
      have h26 : (V 80) = .bool true := hd 26 (by kernel_rfl)
      have h27 : (V 81) = .bool true := hd 27 (by kernel_rfl)
      clear hd
      go_wp2_with fail
      refine hK _ _ ?_ ?_ ?_ ?_
      · rfl
      · exact Below.refl _ _
      · exact rfl
      · trivial
    · intro V W hb hd hap
      have h28 : (V 82) = .bool true := hd 28 (by decide)
      clear hd hap
      simp only [List.drop_succ_cons, List.drop_zero]
      have HBZ := Lib.hid (below_then HB3.out (Nat.le_refl _) (below_then HX.out (Nat.le_refl _) hb))
      clear hb
      go_wp2_with fail
      go_ret
      exact ⟨rfl, HBZ.out⟩
end Go.Proofs.YtgcfhlleaekgfaaGreatDoor.Mut
