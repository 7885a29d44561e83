/- The walk of the law UnionMissing (layer 25). PRINTED by wip/genmisslaw.py. -/
import Derived.Test.YtipoeigehabbmaaGreatDoorUnionAlive
import Derived.Test.YtipoeigehabbmaaGreatDoorRefMissing
import Derived.Test.YtipoeigehabbmaaGreatDoorUnion
set_option linter.unusedSimpArgs false
set_option linter.unusedVariables false
namespace Go.Proofs.YtipoeigehabbmaaGreatDoor.Mut
open Go.RowKit Go.Sort Go.Proofs.YtipoeigehabbmaaGreatDoor.Ord Go.Proofs.YtipoeigehabbmaaGreatDoor.RegInv
set_option linter.unusedSectionVars false
variable [Inhabited Lim]

theorem c_rsame25 {w : World} {v v' : Value} {l : List Mu} (h : Reads w v l) (h' : Reads w v' l) (hs : ∀ m ∈ l, Small m) : Calls Tryz.prog 18 #[v, v'] w (RetB true w) := by
  obtain ⟨R, e, h⟩ := h
  obtain ⟨R', e', h'⟩ := h'
  have := refsame_any v v' R R' w h h' (fun x hx => hs _ (e ▸ List.mem_map.2 ⟨x, hx, rfl⟩)) (fun x hx => hs _ (e' ▸ List.mem_map.2 ⟨x, hx, rfl⟩))
  rw [(eqF_iff _ _).2 (e.trans e'.symm)] at this
  exact this
def addRo (c : Con) (z : Ro) : Con := addC c z.1
theorem foldl_addRo (R : List Ro) : ∀ c, R.foldl addRo c = (R.map (·.1)).foldl addC c := by
  induction R with
  | nil => intro c; rfl
  | cons z R ih => intro c; rw [List.foldl_cons, ih]; rfl

set_option maxHeartbeats 8000000 in
set_option maxRecDepth 100000 in
theorem umiss_any (v1 v2 : Value) (A B : List Ro) (w : World) (hT : Tabs w) (hA : MRow w v1 A) (hB : MRow w v2 B) (zA : ∀ x ∈ A, x.1.key.size ≤ maxLen ∧ x.1.fin.size ≤ maxLen ∧ x.1.val.size ≤ maxLen) (zB : ∀ x ∈ B, x.1.key.size ≤ maxLen ∧ x.1.fin.size ≤ maxLen ∧ x.1.val.size ≤ maxLen) :
    Calls Tryz.prog 3 #[v1, v2] w (RetB true w) := by
  have HGa := Lib.hid (fun (W : World) (hW : RowKit.Below w.heap.size w W) => great_any v1 A 25 W (hA.below hW) (by decide) zA)
  have HGb := Lib.hid (fun (W : World) (hW : RowKit.Below w.heap.size w W) => great_any v2 B 25 W (hB.below hW) (by decide) zB)
  obtain ⟨ga, hga⟩ : ∃ q, q = greatF (A.map (·.1)) 25 := ⟨_, rfl⟩
  obtain ⟨gb, hgb⟩ : ∃ q, q = greatF (B.map (·.1)) 25 := ⟨_, rfl⟩
  rw [← hga] at HGa
  rw [← hgb] at HGb
  obtain ⟨la, hla⟩ : ∃ l, l = A.map (·.1) := ⟨_, rfl⟩
  obtain ⟨lb, hlb⟩ : ∃ l, l = B.map (·.1) := ⟨_, rfl⟩
  rw [← hla] at hga
  rw [← hlb] at hgb
  have HRA := Lib.hid (show Reads w v1 la from ⟨A, hla.symm, hA⟩)
  have HRB := Lib.hid (show Reads w v2 lb from ⟨B, hlb.symm, hB⟩)
  obtain ⟨ao, ac, rfl, -, -⟩ := hA.form
  obtain ⟨bo, bc, rfl, -, -⟩ := hB.form
  obtain ⟨na, hna⟩ : ∃ k, k = A.length := ⟨_, rfl⟩
  obtain ⟨nb, hnb⟩ : ∃ k, k = B.length := ⟨_, rfl⟩
  rw [← hna] at HGa HRA ⊢
  rw [← hnb] at HGb HRB ⊢
  have HT := Lib.hid hT
  have HGG := Lib.hid (And.intro hga hgb)
  clear hT hA hB zA zB hga hgb hna hnb hla hlb
  obtain ⟨x, hx⟩ : ∃ x, x = leftOf la := ⟨_, rfl⟩
  obtain ⟨y, hy⟩ : ∃ y, y = leftOf lb := ⟨_, rfl⟩
  have HXY := Lib.hid (And.intro hx hy)
  clear hx hy
  have HB0 := Lib.hid (Below.refl w.heap.size w)
  go_enter Tryz.func3, Tryz.ntmps3
  go_wp2_with fail
  refine (HGa.out _ HB0.out).mono ?_
  rintro e w1 ⟨rfl, rfl⟩
  cases ga
  case true =>
    go_wp2_with fail
    go_ret
    exact ⟨rfl, HB0.out⟩
  go_wp2_with fail
  refine (HGb.out _ HB0.out).mono ?_
  rintro e w1 ⟨rfl, rfl⟩
  cases gb
  case true =>
    go_wp2_with fail
    go_ret
    exact ⟨rfl, HB0.out⟩
  obtain ⟨lA, sA⟩ := great_small HGG.out.1.symm
  obtain ⟨lB, sB⟩ := great_small HGG.out.2.symm
  have HO := Lib.hid (show (∀ W, RowKit.Below w.heap.size w W → Calls Tryz.prog 15 #[.slice ao na ac] W (RetC x W) ∧ Calls Tryz.prog 20 #[.slice ao na ac] W (RetC x W)) ∧ ∀ W, RowKit.Below w.heap.size w W → Calls Tryz.prog 15 #[.slice bo nb bc] W (RetC y W) ∧ Calls Tryz.prog 20 #[.slice bo nb bc] W (RetC y W) from by
    rw [HXY.out.1, HXY.out.2]
    exact ⟨fun W h => ⟨c_of (HT.out.below h) (HRA.out.below h) (by omega) sA, c_refof (HT.out.below h) (HRA.out.below h) (by omega) sA⟩, fun W h => ⟨c_of (HT.out.below h) (HRB.out.below h) (by omega) sB, c_refof (HT.out.below h) (HRB.out.below h) (by omega) sB⟩⟩)
  have HG := Lib.hid (show Good x 25 ∧ Good y 25 from by rw [HXY.out.1, HXY.out.2]; exact ⟨(leftOf_good la).more lA, (leftOf_good lb).more lB⟩)
  clear lA lB sA sB HGG HGa HGb HRA HRB HXY
  go_wp2_with fail
  refine (HO.out.1 _ HB0.out).1.mono ?_
  rintro e w1 ⟨vv, rfl, hl, hb⟩
  obtain ⟨p1, q1, r1, p2, q2, r2, p3, q3, r3, rfl, hl1⟩ := hl.form
  have HLx0 := Lib.hid hl1
  have HB1 := Lib.hid (below_then HB0.out (Nat.le_refl _) hb)
  clear hl hb hl1
  go_wp2_with fail
  refine (HO.out.2 _ HB1.out).1.mono ?_
  rintro e w2 ⟨vv, rfl, hl, hb⟩
  obtain ⟨p4, q4, r4, p5, q5, r5, p6, q6, r6, rfl, hl1⟩ := hl.form
  have HLy0 := Lib.hid hl1
  have HLx1 := Lib.hid (HLx0.out.below hb)
  have HB2 := Lib.hid (below_then HB1.out (Nat.le_refl _) hb)
  clear hl hb hl1 HLx0
  go_upto_region 4 with fail
  obtain ⟨W3, hW⟩ : ∃ W, W = ((w2.alloc (.cells #[.slice p1 q1 r1, .slice p2 q2 r2, .slice p3 q3 r3] 25)).alloc (.cells #[.slice p4 q4 r4, .slice p5 q5 r5, .slice p6 q6 r6] 25)) := ⟨_, rfl⟩
  rw [← hW]
  have hb3 : RowKit.Below w2.heap.size w2 W3 := by rw [hW]; exact ((Below.refl _ _).alloc (Nat.le_refl _) _).alloc (by simp) _
  have x3 : C3 W3 w2.heap.size (.slice p1 q1 r1) (.slice p2 q2 r2) (.slice p3 q3 r3) := by
    rw [hW]
    exact (C3.new w2 _ _ _).below ((Below.refl _ _).alloc (Nat.le_refl _) _)
  have y3 : C3 W3 (w2.heap.size + 1) (.slice p4 q4 r4) (.slice p5 q5 r5) (.slice p6 q6 r6) := by
    rw [hW]
    have := C3.new (w2.alloc (.cells #[.slice p1 q1 r1, .slice p2 q2 r2, .slice p3 q3 r3] 25)) (.slice p4 q4 r4) (.slice p5 q5 r5) (.slice p6 q6 r6)
    rwa [World.size_alloc] at this
  have HLx := Lib.hid (HLx1.out.below hb3)
  have HLy := Lib.hid (HLy0.out.below hb3)
  have HB3 := Lib.hid (below_then HB2.out (Nat.le_refl _) hb3)
  obtain ⟨n2, hn⟩ : ∃ n, n = w2.heap.size := ⟨_, rfl⟩
  rw [← hn] at x3 y3 ⊢
  have HCx := Lib.hid x3
  have HCy := Lib.hid y3
  clear hW hb3 x3 y3 hn HLx1 HLy0 HB1 HB2
  obtain ⟨-, s0, s1, s2, -⟩ := HCx.out
  obtain ⟨-, t0, t1, t2, -⟩ := HCy.out
  go_wp2_with fail
  refine (c_missing (nx := 25) (ny := 25) (HT.out.below HB3.out) HLx.out.is HG.out.1 HLy.out.is HG.out.2 (by decide)).mono ?_
  rintro e W4 ⟨vl, rfl, hr, hb⟩
  obtain ⟨R, eR, hR⟩ := hr
  obtain ⟨lo, lc, rfl, -, -⟩ := hR.form
  have hsub : ∀ m ∈ missF x y, m ∈ x.all := fun m hm => (mem_missF.1 hm).1
  have hlen : (missF x y).length ≤ 25 := by
    have h1 : (missF x y).length ≤ (allF x).length := List.length_filter_le _ _
    rw [len_allF] at h1
    have := HG.out.1.okc.len
    omega
  have hRl : R.length ≤ 25 := by have := congrArg List.length eR; rw [List.length_map] at this; omega
  have HSM := Lib.hid (show ∀ z ∈ R, Small z.1 from fun z hz => small_right (HG.out.1.okc.right _ (hsub _ (eR ▸ List.mem_map.2 ⟨z, hz, rfl⟩))))
  have HSL := Lib.hid (show ∀ m ∈ missF x y, Small m from fun m hm => small_right (HG.out.1.okc.right _ (hsub _ hm)))
  obtain ⟨n, hN⟩ : ∃ n, n = R.length := ⟨_, rfl⟩
  rw [← hN] at hR hRl ⊢
  have HV := Lib.hid hR
  have HN := Lib.hid hN
  have HER := Lib.hid eR
  have HTW := Lib.hid (fun W (h : RowKit.Below W4.heap.size W4 W) => HT.out.below (below_then HB3.out (Nat.le_refl _) (below_then hb (Nat.le_refl _) h)))
  have HBW := Lib.hid (fun W (h : RowKit.Below W4.heap.size W4 W) => below_then HB3.out (Nat.le_refl _) (below_then hb (Nat.le_refl _) h))
  have HI := Lib.hid (fun W (h : RowKit.Below W4.heap.size W4 W) => And.intro (HLx.out.below (below_then hb (Nat.le_refl _) h)) (HLy.out.below (below_then hb (Nat.le_refl _) h)))
  have HCC := Lib.hid (fun W (h : RowKit.Below W4.heap.size W4 W) => And.intro (HCx.out.below (below_then hb (Nat.le_refl _) h)) (HCy.out.below (below_then hb (Nat.le_refl _) h)))
  obtain ⟨Q, hQ⟩ : ∃ Q, Q = R.foldl addRo y := ⟨_, rfl⟩
  have HQ := Lib.hid hQ
  clear hR hN eR hb hsub hlen HLx HLy HCx HCy s0 s1 s2 t0 t1 t2 HB0 HB3 hQ
  obtain ⟨-, t0, t1, t2, -⟩ := (HCC.out W4 (Below.refl _ _)).2
  go_upto_region 6 with fail
  obtain ⟨W5, hW5⟩ : ∃ W, W = W4.alloc (.cells #[.slice p4 q4 r4, .slice p5 q5 r5, .slice p6 q6 r6] 25) := ⟨_, rfl⟩
  have hb5 : RowKit.Below W4.heap.size W4 W5 := by rw [hW5]; exact (Below.refl _ _).alloc (Nat.le_refl _) _
  have w5 : C3 W5 W4.heap.size (.slice p4 q4 r4) (.slice p5 q5 r5) (.slice p6 q6 r6) := by rw [hW5]; exact C3.new _ _ _ _
  rw [← hW5]
  have HB5 := Lib.hid hb5
  have HC5 := Lib.hid w5
  clear hW5 hb5 w5 t0 t1 t2
  obtain ⟨n4, hn4⟩ : ∃ n, n = W4.heap.size := ⟨_, rfl⟩
  rw [← hn4] at HC5 ⊢
  have HN4 := Lib.hid hn4
  clear hn4
  go_wp2_with fail
  go_loopw [9] (fun iv wr => ∃ (k : Nat) (acc : Con), k ≤ n ∧ iv = .int .i64 k ∧ Hid ((R.drop k).foldl addRo acc = Q) ∧ Hid (Good acc (25 + k)) ∧ Hid (∃ o1 m1 k1 o2 m2 k2 o3 m3 k3, C3 wr n4 (.slice o1 m1 k1) (.slice o2 m2 k2) (.slice o3 m3 k3) ∧ Lies wr (.slice o1 m1 k1) (.slice o2 m2 k2) (.slice o3 m3 k3) acc) ∧ Hid (RowKit.Below W4.heap.size W4 wr)) (fun iv _ => n - (intOf iv).toNat)
  case atStart => exact ⟨0, y, by omega, rfl, Lib.hid (by rw [HQ.out]; rfl), Lib.hid (HG.out.2.more (by decide)), Lib.hid ⟨_, _, _, _, _, _, _, _, _, HC5.out, (HI.out _ HB5.out).2⟩, HB5⟩
  case round =>
    obtain ⟨k, acc, hk, rfl, hput, hgood, hbox, hl⟩ := hrel
    obtain ⟨p7, q7, r7, p8, q8, r8, p9, q9, r9, hc7, hl7⟩ := hbox.out
    by_cases hlt : k < n
    · have hkr : k < R.length := by have := HN.out; omega
      obtain ⟨z, hx⟩ : ∃ x, R[k]? = some x := ⟨_, List.getElem?_eq_getElem hkr⟩
      have hxe : R[k] = z := (List.getElem?_eq_some_iff.1 hx).2
      have hxm := List.mem_of_getElem? hx
      have hxo := (HV.out.below hl.out).over z hxm
      obtain ⟨xb, xoff, hao, hat⟩ := (HV.out.below hl.out).at_ hx
      cases hao
      have hst := hput.out
      rw [List.drop_eq_getElem_cons hkr, hxe, List.foldl_cons] at hst
      have HC7 := Lib.hid hc7
      have HL7 := Lib.hid hl7
      obtain ⟨na', hna'⟩ : ∃ c, c = addC acc z.1 := ⟨_, rfl⟩
      have HST := Lib.hid (show (R.drop (k + 1)).foldl addRo na' = Q by rw [hna']; exact hst)
      have HGN := Lib.hid (show Good na' (25 + (k + 1)) by rw [hna']; exact addC_good hgood.out z.1)
      have HADD := Lib.hid (fun W (hW : RowKit.Below wr.heap.size wr W) => show Calls Tryz.prog 17 #[.agg #[.slice p7 q7 r7, .slice p8 q8 r8, .slice p9 q9 r9], vM z] W (RetC na' W) from by rw [hna']; exact c_add (n := 25 + k) (HTW.out W (below_then hl.out (Nat.le_refl _) hW)) (HL7.out.below hW).is hgood.out (by have := hRl; omega) (Over.below hxo hW) (HSM.out z hxm))
      have HAT := Lib.hid hat
      obtain ⟨xo, xc, ex, -, -⟩ := Over.form hxo
      clear hst hna' hat hxo hxm hx hxe hbox hc7 hl7 hput hgood
      obtain ⟨⟨at1, ak1, akey1, afin1, aval1, aex1, ⟨ap1, al1, aw1⟩, aov1⟩, av1⟩ := z
      simp only [] at ex
      obtain ⟨xn, hxn⟩ : ∃ k, k = aov1.length := ⟨_, rfl⟩
      rw [← hxn] at ex
      subst ex
      clear hxn
      unfold vM at HADD
      simp only [] at HADD
      have j0 : (0 : Int) ≤ (k : Int) := by omega
      have j1 : (k : Int) < (n : Int) := by omega
      go_wp2_with fail
      refine wp_region_told [] 6 [false, false, false, false, false, false, false, false, false, false, false, false, false, false, false, false, false, false, false, false, false, false, false, false, false, false, false, false, false, false, true, true, true, true, true, true, false, false, false, false, false, false, false, false, false, false, false, false, false, false, false, false, false]
        [sLit (.agg #[.slice p7 q7 r7, .slice p8 q8 r8, .slice p9 q9 r9]),
    sLit (.slice (some ⟨xb, xoff, none⟩) n lc),
    sLit (.int .i64 k),
    sLit (.pointer (some ⟨xb, xoff + k * 10, none⟩)),
    sLit (.agg #[.int .i64 at1, .int .i64 ak1, .string akey1, .string afin1, .string aval1, .int .i64 aex1, .int .i64 ap1, .int .i64 al1, .int .i64 aw1, .slice xo xn xc]),
    sOne (IsC (na')) (fun _ _ _ h hb => h.below hb)] (by kernel_rfl) (by kernel_rfl) (by kernel_rfl) (fun F hF => ?_)
      simp only [over, overL, Nat.reduceAdd] at hF
      obtain rfl := funext hF
      clear hF
      refine ⟨⟨?_, ?_, ?_, ?_, ?_, ?_, trivial⟩, ?_⟩
      · intro V W hb hd K hK _
        clear hd
        obtain ⟨-, s0, s1, s2, -⟩ := HC7.out.below hb
        go_wp2_with fail
        refine hK _ _ ?_ ?_ ?_ ?_
        · rfl
        · exact Below.refl _ _
        · exact rfl
        · trivial
      · intro V W hb hd K hK _
        clear hd
        go_wp2_with fail
        refine hK _ _ ?_ ?_ ?_ ?_
        · rfl
        · exact Below.refl _ _
        · exact rfl
        · trivial
      · intro V W hb hd K hK _
        clear hd
        go_wp2_with fail
        refine hK _ _ ?_ ?_ ?_ ?_
        · rfl
        · exact Below.refl _ _
        · exact rfl
        · trivial
      · intro V W hb hd K hK _
        have h1 : (V 31) = .slice (some ⟨xb, xoff, none⟩) n lc := hd 1 (by kernel_rfl)
        have h2 : (V 32) = .int .i64 k := hd 2 (by kernel_rfl)
        clear hd
        go_wp2_with fail
        refine hK _ _ ?_ ?_ ?_ ?_
        · rfl
        · exact Below.refl _ _
        · exact rfl
        · trivial
      · intro V W hb hd K hK _
        have h3 : (V 33) = .pointer (some ⟨xb, xoff + k * 10, none⟩) := hd 3 (by kernel_rfl)
        clear hd
        obtain ⟨hbl, a0, a1, a2, a3, a4, a5, a6, a7, a8, a9⟩ := HAT.out.below hb
        simp only [] at a0 a1 a2 a3 a4 a5 a6 a7 a8 a9
        go_wp2_with fail
        refine hK _ _ ?_ ?_ ?_ ?_
        · rfl
        · exact Below.refl _ _
        · exact rfl
        · trivial
      · intro V W hb hd K hK _
        have h0 : (V 30) = .agg #[.slice p7 q7 r7, .slice p8 q8 r8, .slice p9 q9 r9] := hd 0 (by kernel_rfl)
        have h4 : (V 34) = .agg #[.int .i64 at1, .int .i64 ak1, .string akey1, .string afin1, .string aval1, .int .i64 aex1, .int .i64 ap1, .int .i64 al1, .int .i64 aw1, .slice xo xn xc] := hd 4 (by kernel_rfl)
        clear hd
        go_wp2_with fail
        refine (HADD.out W hb).mono ?_
        rintro e w1 ⟨v1, rfl, hv1, hb1⟩
        go_wp2_with fail
        refine hK _ _ ?_ ?_ ?_ ?_
        · rfl
        · exact hb1
        · exact hv1
        · trivial
      · intro V W hb hd hap
        have h5 : IsC (na') (V 35) W := hd 5 (by decide)
        clear hd hap
        simp only [List.drop_succ_cons, List.drop_zero]
        obtain ⟨p10, q10, r10, p11, q11, r11, p12, q12, r12, e35, hlj⟩ := h5.form
        have HLJ := Lib.hid hlj
        have HCW := Lib.hid (HC7.out.below hb)
        have HBn := Lib.hid (below_then hl.out (Nat.le_refl _) hb)
        clear hlj hb h5
        obtain ⟨-, s0, s1, s2, f0, f1, f2⟩ := HCW.out
        go_wp2_with fail
        go_roundw
        case rel => exact ⟨k + 1, na', by omega, by go_num, HST, HGN, Lib.hid ⟨_, _, _, _, _, _, _, _, _, c3_put HCW.out _ _ _, HLJ.out.plain3 (plain3 HCW.out _ _ _)⟩, Lib.hid (c3_put_below HBn.out (by have := HN4.out; omega) _ _ _)⟩
        case measure => simp [intOf]; omega
    · obtain rfl : k = n := by omega
      have hq : acc = Q := by have h := hput.out; rw [List.drop_of_length_le (by have := HN.out; omega)] at h; exact h
      have hq2 : acc = leftOf (y.all ++ missF x y) := by rw [hq, HQ.out, foldl_addRo, HER.out, fold_good HG.out.2]
      have hm0 : missF x acc = [] := by rw [hq2]; exact miss_none x y
      have HM0 := Lib.hid hm0
      have HC7 := Lib.hid hc7
      have HL7 := Lib.hid hl7
      clear hq hq2 hm0 hbox hc7 hl7
      have HVW := Lib.hid (show Reads wr (.slice lo k lc) (missF x y) from ⟨R, HER.out, HV.out.below hl.out⟩)
      obtain ⟨W6, hW6⟩ : ∃ W6, W6 = wr := ⟨_, rfl⟩
      rw [← hW6] at HC7 HL7 HVW hl ⊢
      clear hW6
      have HE6 := Lib.hid (Below.refl W6.heap.size W6)
      go_wp2_with fail
      refine (HO.out.1 _ (HBW.out _ hl.out)).2.mono ?_
      rintro e w7 ⟨v7, rfl, hc1, hb⟩
      have HC1 := Lib.hid hc1
      have HE7 := Lib.hid (below_then HE6.out (Nat.le_refl _) hb)
      clear hc1 hb
      go_wp2_with fail
      refine (HO.out.2 _ (HBW.out _ (below_then hl.out (Nat.le_refl _) HE7.out))).2.mono ?_
      rintro e w8 ⟨v8, rfl, hc2, hb⟩
      have HC2 := Lib.hid hc2
      have HC1b := Lib.hid (HC1.out.below hb)
      have HE8 := Lib.hid (below_then HE7.out (Nat.le_refl _) hb)
      clear hc2 hb HC1
      go_wp2_with fail
      refine (c_refmissing (nx := 25) (ny := 25) (HTW.out _ (below_then hl.out (Nat.le_refl _) HE8.out)) HC1b.out HG.out.1 HC2.out HG.out.2 (by decide)).mono ?_
      rintro e w9 ⟨v9, rfl, hr9, hb⟩
      have HR9 := Lib.hid hr9
      have HE9 := Lib.hid (below_then HE8.out (Nat.le_refl _) hb)
      clear hr9 hb HC1b HC2
      go_wp2_with fail
      refine (c_rsame25 (HVW.out.below HE9.out) HR9.out HSL.out).mono ?_
      rintro e w10 ⟨rfl, hb⟩
      have HE10 := Lib.hid (below_then HE9.out (Nat.le_refl _) hb)
      clear hb HR9
      have HCX := Lib.hid (HCC.out _ (below_then hl.out (Nat.le_refl _) HE10.out)).1
      have HCW := Lib.hid (HC7.out.below HE10.out)
      obtain ⟨-, s0, s1, s2, -⟩ := HCX.out
      obtain ⟨-, t0, t1, t2, -⟩ := HCW.out
      go_wp2_with fail
      refine (c_missing (nx := 25) (ny := 25 + k) (HTW.out _ (below_then hl.out (Nat.le_refl _) HE10.out)) ((HI.out _ (below_then hl.out (Nat.le_refl _) HE10.out)).1).is HG.out.1 (HL7.out.below HE10.out).is hgood.out (by omega)).mono ?_
      rintro e w11 ⟨v11, rfl, hr11, hb⟩
      have hr12 : Reads w11 v11 [] := by rw [← HM0.out]; exact hr11
      obtain ⟨R11, e11, hm11⟩ := hr12
      obtain ⟨o11, c11, e13, -, -⟩ := hm11.form
      have e12 : v11 = .slice o11 0 c11 := by
        have := congrArg List.length e11
        rw [List.length_map] at this
        rw [e13, this]
        rfl
      subst e12
      have HE11 := Lib.hid (below_then HE10.out (Nat.le_refl _) hb)
      clear hr11 e11 e13 hm11 hb s0 s1 s2 t0 t1 t2
      go_wp2_with fail
      refine (alive25_any _ (HTW.out _ (below_then hl.out (Nat.le_refl _) HE11.out))).mono ?_
      rintro e w12 ⟨rfl, hb⟩
      have HE12 := Lib.hid (below_then HE11.out (Nat.le_refl _) hb)
      clear hb
      go_wp2_with fail
      go_ret
      exact ⟨rfl, HBW.out _ (below_then hl.out (Nat.le_refl _) HE12.out)⟩
end Go.Proofs.YtipoeigehabbmaaGreatDoor.Mut
