/- The entries of mutations, by the law; the walk of the law DiffsPicks (layer 36). PRINTED by wip/genpicks.py. -/
import Derived.Test.YtmfhmcegmeinnaaGreatDoorEntPick
import Derived.Test.YtmfhmcegmeinnaaGreatDoorEntTop
import Derived.Test.YtmfhmcegmeinnaaGreatDoorEntRow
import Derived.Test.YtmfhmcegmeinnaaGreatDoorRefState
set_option linter.unusedSimpArgs false
set_option linter.unusedVariables false
namespace Go.Proofs.YtmfhmcegmeinnaaGreatDoor.Mut
open Go.RowKit Go.Sort Go.Proofs.YtmfhmcegmeinnaaGreatDoor.Ord Go.Proofs.YtmfhmcegmeinnaaGreatDoor.RegInv
set_option linter.unusedSectionVars false
variable [Inhabited Lim]

def entR (x : Ro) : Diffs.Ent := Diffs.entOf x.1
theorem hasE_congr {a b : List Diffs.Ent} (h : ∀ z, z ∈ a ↔ z ∈ b) (t : Diffs.Ent) : Diffs.hasE a t = Diffs.hasE b t := by
  unfold Diffs.hasE
  rw [Bool.eq_iff_iff, List.any_eq_true, List.any_eq_true]
  exact ⟨fun ⟨z, h1, h2⟩ => ⟨z, (h z).1 h1, h2⟩, fun ⟨z, h1, h2⟩ => ⟨z, (h z).2 h1, h2⟩⟩
set_option maxHeartbeats 8000000 in
set_option maxRecDepth 100000 in
theorem entries_any (v : Value) (R : List Ro) (w : World) (hv : MRow w v R) (hn : R.length ≤ 1000) :
    Calls Tryz.prog 30 #[v] w (Diffs.RowPost w (Diffs.rowF (R.map entR))) := by
  obtain ⟨ao, cap, rfl, -, -⟩ := hv.form
  obtain ⟨n, hN⟩ : ∃ n, n = R.length := ⟨_, rfl⟩
  rw [← hN] at hv hn ⊢
  have HV := Lib.hid hv
  have HN := Lib.hid hN
  clear hv hN
  go_enter Tryz.func30, Tryz.ntmps30
  go_wp2_with fail
  go_loopw [3, 4] (fun ov iv wr => ∃ k : Nat, k ≤ n ∧ iv = .int .i64 k ∧ Hid (Diffs.ERow wr ov (Diffs.rowF ((R.take k).map entR))) ∧ Hid (RowKit.Below w.heap.size w wr)) (fun _ iv _ => n - (intOf iv).toNat)
  case atStart => exact ⟨0, by omega, rfl, Lib.hid (Lst.nil _), Lib.hid (Below.refl _ _)⟩
  case round =>
    obtain ⟨k, hk, rfl, hrow, hbl⟩ := hrel
    by_cases hlt : k < n
    · obtain ⟨x, hx⟩ : ∃ x, R[k]? = some x := ⟨_, List.getElem?_eq_getElem (by have := HN.out; omega)⟩
      obtain ⟨xb, xoff, hao, hat⟩ := (HV.out.below hbl.out).at_ hx
      cases hao
      have htk : Diffs.rowF ((R.take (k + 1)).map entR) = Diffs.putF (Diffs.rowF ((R.take k).map entR)) (entR x) := by
        rw [List.take_add_one, hx, Option.toList_some, List.map_append, List.map_singleton, Diffs.rowF_snoc]
      obtain ⟨oo, oc, rfl, -, -⟩ := Lst.form hrow.out
      obtain ⟨OL, hOL⟩ : ∃ l, l = Diffs.rowF ((R.take k).map entR) := ⟨_, rfl⟩
      rw [← hOL] at hrow htk ⊢
      have hle : OL.length ≤ 1000 := by
        have h1 := Diffs.rowF_len ((R.take k).map entR)
        rw [← hOL, List.length_map] at h1
        have := List.length_take_le k R
        omega
      have HPUT := Lib.hid (fun (W : World) (h : RowKit.Below wr.heap.size wr W) => show Calls Tryz.prog 76 #[.slice oo OL.length oc, .agg #[.string x.1.key, .int .i64 x.1.at_.p, .int .i64 x.1.at_.l, .int .i64 x.1.at_.w]] W (Diffs.RowPost W (Diffs.rowF ((R.take (k + 1)).map entR))) from by
        rw [htk]
        exact Diffs.put_any oo oc OL (entR x) W (Lst.below hrow.out h) hle)
      have HAT := Lib.hid hat
      clear hx hat htk hOL hle
      obtain ⟨⟨at1, ak1, akey1, afin1, aval1, aex1, ⟨ap1, al1, aw1⟩, aov1⟩, av1⟩ := x
      simp only [] at HPUT
      have j0 : (0 : Int) ≤ (k : Int) := by omega
      have j1 : (k : Int) < (n : Int) := by omega
      go_wp2_with fail
      refine wp_region_told [] 13 [false, false, false, false, false, false, false, false, false, false, false, true, true, true, true, true, true, true, true, true, true, true, true, true, false]
        [sLit (.slice oo OL.length oc),
    sLit (.slice (some ⟨xb, xoff, none⟩) n cap),
    sLit (.int .i64 k),
    sLit (.pointer (some ⟨xb, xoff + k * 10, none⟩)),
    sLit (.pointer (some ⟨xb, xoff + k * 10 + 2, none⟩)),
    sLit (.string akey1),
    sLit (.slice (some ⟨xb, xoff, none⟩) n cap),
    sLit (.int .i64 k),
    sLit (.pointer (some ⟨xb, xoff + k * 10, none⟩)),
    sLit (.pointer (some ⟨xb, xoff + k * 10 + 6, none⟩)),
    sLit (.agg #[.int .i64 ap1, .int .i64 al1, .int .i64 aw1]),
    sLit (.agg #[.string akey1, .int .i64 ap1, .int .i64 al1, .int .i64 aw1]),
    sOne (fun v W => Diffs.ERow W v (Diffs.rowF ((R.take (k + 1)).map entR))) (fun _ _ _ h hb => Lst.below h hb)] (by kernel_rfl) (by kernel_rfl) (by kernel_rfl) (fun F hF => ?_)
      simp only [over, overL, Nat.reduceAdd] at hF
      obtain rfl := funext hF
      clear hF
      refine ⟨⟨?_, ?_, ?_, ?_, ?_, ?_, ?_, ?_, ?_, ?_, ?_, ?_, ?_, trivial⟩, ?_⟩
      · intro V W hb hd K hK _
        clear hd
        go_wp2_with fail
        refine hK _ _ ?_ ?_ ?_ ?_
        · rfl
        · exact Below.refl _ _
        · exact rfl
        · trivial
      · intro V W hb hd K hK _
        clear hd
        go_wp2_with fail
        refine hK _ _ ?_ ?_ ?_ ?_
        · rfl
        · exact Below.refl _ _
        · exact rfl
        · trivial
      · intro V W hb hd K hK _
        clear hd
        go_wp2_with fail
        refine hK _ _ ?_ ?_ ?_ ?_
        · rfl
        · exact Below.refl _ _
        · exact rfl
        · trivial
      · intro V W hb hd K hK _
        have h1 : (V 12) = .slice (some ⟨xb, xoff, none⟩) n cap := hd 1 (by kernel_rfl)
        have h2 : (V 13) = .int .i64 k := hd 2 (by kernel_rfl)
        clear hd
        go_wp2_with fail
        refine hK _ _ ?_ ?_ ?_ ?_
        · rfl
        · exact Below.refl _ _
        · exact rfl
        · trivial
      · intro V W hb hd K hK _
        have h3 : (V 14) = .pointer (some ⟨xb, xoff + k * 10, none⟩) := hd 3 (by kernel_rfl)
        clear hd
        go_wp2_with fail
        refine hK _ _ ?_ ?_ ?_ ?_
        · rfl
        · exact Below.refl _ _
        · exact rfl
        · trivial
      · intro V W hb hd K hK _
        have h4 : (V 15) = .pointer (some ⟨xb, xoff + k * 10 + 2, none⟩) := hd 4 (by kernel_rfl)
        clear hd
        obtain ⟨hbl, a0, a1, a2, a3, a4, a5, a6, a7, a8, a9⟩ := HAT.out.below hb
        simp only [] at a0 a1 a2 a3 a4 a5 a6 a7 a8 a9
        go_wp2_with fail
        refine hK _ _ ?_ ?_ ?_ ?_
        · rfl
        · exact Below.refl _ _
        · exact rfl
        · trivial
      · intro V W hb hd K hK _
        clear hd
        go_wp2_with fail
        refine hK _ _ ?_ ?_ ?_ ?_
        · rfl
        · exact Below.refl _ _
        · exact rfl
        · trivial
      · intro V W hb hd K hK _
        clear hd
        go_wp2_with fail
        refine hK _ _ ?_ ?_ ?_ ?_
        · rfl
        · exact Below.refl _ _
        · exact rfl
        · trivial
      · intro V W hb hd K hK _
        have h6 : (V 17) = .slice (some ⟨xb, xoff, none⟩) n cap := hd 6 (by kernel_rfl)
        have h7 : (V 18) = .int .i64 k := hd 7 (by kernel_rfl)
        clear hd
        go_wp2_with fail
        refine hK _ _ ?_ ?_ ?_ ?_
        · rfl
        · exact Below.refl _ _
        · exact rfl
        · trivial
      · intro V W hb hd K hK _
        have h8 : (V 19) = .pointer (some ⟨xb, xoff + k * 10, none⟩) := hd 8 (by kernel_rfl)
        clear hd
        go_wp2_with fail
        refine hK _ _ ?_ ?_ ?_ ?_
        · rfl
        · exact Below.refl _ _
        · exact rfl
        · trivial
      · intro V W hb hd K hK _
        have h9 : (V 20) = .pointer (some ⟨xb, xoff + k * 10 + 6, none⟩) := hd 9 (by kernel_rfl)
        clear hd
        obtain ⟨hbl, a0, a1, a2, a3, a4, a5, a6, a7, a8, a9⟩ := HAT.out.below hb
        simp only [] at a0 a1 a2 a3 a4 a5 a6 a7 a8 a9
        go_wp2_with fail
        refine hK _ _ ?_ ?_ ?_ ?_
        · rfl
        · exact Below.refl _ _
        · exact rfl
        · trivial
      · intro V W hb hd K hK _
        have h5 : (V 16) = .string akey1 := hd 5 (by kernel_rfl)
        have h10 : (V 21) = .agg #[.int .i64 ap1, .int .i64 al1, .int .i64 aw1] := hd 10 (by kernel_rfl)
        clear hd
        go_wp2_with fail
        refine hK _ _ ?_ ?_ ?_ ?_
        · rfl
        · exact Below.refl _ _
        · exact rfl
        · trivial
      · intro V W hb hd K hK _
        have h0 : (V 11) = .slice oo OL.length oc := hd 0 (by kernel_rfl)
        have h11 : (V 22) = .agg #[.string akey1, .int .i64 ap1, .int .i64 al1, .int .i64 aw1] := hd 11 (by kernel_rfl)
        clear hd
        go_wp2_with fail
        refine (HPUT.out W hb).mono ?_
        rintro e w1 ⟨v1, rfl, hv1, hb1⟩
        go_wp2_with fail
        refine hK _ _ ?_ ?_ ?_ ?_
        · rfl
        · exact hb1
        · exact hv1
        · trivial
      · intro V W hb hd hap
        have h12 : Diffs.ERow W (V 23) (Diffs.rowF ((R.take (k + 1)).map entR)) := hd 12 (by decide)
        clear hd hap
        simp only [List.drop_succ_cons, List.drop_zero]
        have HR := Lib.hid h12
        have HB := Lib.hid (below_then hbl.out (Nat.le_refl _) hb)
        clear h12 hb
        go_wp2_with fail
        go_roundw
        case rel => exact ⟨k + 1, by omega, by go_num, HR, HB⟩
        case measure => simp [intOf]; omega
    · have hkn : k = n := by omega
      have hr := hrow.out
      rw [List.take_of_length_le (by have := HN.out; omega)] at hr
      have HR := Lib.hid hr
      have hltn : ¬ ((k : Int) < (n : Int)) := by omega
      clear hr hrow
      go_wp2_with fail
      go_ret
      exact ⟨_, rfl, HR.out, hbl.out⟩

set_option maxHeartbeats 16000000 in
set_option maxRecDepth 100000 in
theorem picks_any (v1 v2 : Value) (A : List Ro) (E : List Diffs.Ent) (w : World) (hT : Tabs w) (hA : MRow w v1 A) (zA : ∀ x ∈ A, x.1.key.size ≤ maxLen ∧ x.1.fin.size ≤ maxLen ∧ x.1.val.size ≤ maxLen) (hE : Diffs.ERow w v2 E) :
    Calls Tryz.prog 6 #[v1, v2] w (RetB true w) := by
  have HGa := Lib.hid (great_any v1 A 40 w hA (by decide) zA)
  obtain ⟨ga, hga⟩ : ∃ q, q = greatF (A.map (·.1)) 40 := ⟨_, rfl⟩
  rw [← hga] at HGa
  have HVA := Lib.hid hA
  obtain ⟨ao, ac, rfl, -, -⟩ := hA.form
  obtain ⟨eo, ec, rfl, -, -⟩ := Lst.form hE
  have HVE := Lib.hid hE
  obtain ⟨na, hna⟩ : ∃ k, k = A.length := ⟨_, rfl⟩
  rw [← hna] at HGa HVA ⊢
  have HNA := Lib.hid hna
  have HT := Lib.hid hT
  have HGG := Lib.hid hga
  clear hT hA zA hga hna hE
  go_enter Tryz.func6, Tryz.ntmps6
  go_wp2_with fail
  refine HGa.out.mono ?_
  rintro e w1 ⟨rfl, rfl⟩
  cases ga
  case true =>
    go_wp2_with fail
    go_ret
    exact ⟨rfl, Below.refl _ _⟩
  by_cases h60 : (60 : Int) < (E.length : Int)
  · have hd : decide ((60 : Int) < (E.length : Int)) = true := decide_eq_true h60
    go_wp2_with fail
    go_ret
    exact ⟨rfl, Below.refl _ _⟩
  have hd : decide ((60 : Int) < (E.length : Int)) = false := decide_eq_false h60
  have hE60 : E.length ≤ 60 := by omega
  obtain ⟨lA, sA⟩ := great_small HGG.out.symm
  obtain ⟨la, hla⟩ : ∃ l, l = A.map (·.1) := ⟨_, rfl⟩
  rw [← hla] at lA sA
  have HLA := Lib.hid hla
  obtain ⟨x, hx⟩ : ∃ x, x = leftOf la := ⟨_, rfl⟩
  have HO := Lib.hid (show Calls Tryz.prog 10 #[.slice ao na ac] w (RetC x w) from by
    rw [hx]
    exact c_of HT.out ⟨A, HLA.out.symm, HVA.out⟩ (by omega) sA)
  have HRO := Lib.hid (fun W (h : RowKit.Below w.heap.size w W) => show Calls Tryz.prog 29 #[.slice ao na ac] W (RetC x W) from by
    rw [hx]
    exact c_refof (HT.out.below h) ⟨A, HLA.out.symm, HVA.out.below h⟩ (by omega) sA)
  have HG := Lib.hid (show Good x 40 from by rw [hx]; exact (leftOf_good la).more lA)
  clear lA sA hla hx HGa HGG h60
  go_wp2_with fail
  refine HO.out.mono ?_
  rintro e w1 ⟨vv, rfl, hc, hb1⟩
  obtain ⟨p1, q1, r1, p2, q2, r2, p3, q3, r3, rfl, hl⟩ := hc.form
  have HC := Lib.hid hl
  have HB1 := Lib.hid hb1
  clear hc hl hb1 hd
  go_upto_region 4 with fail
  obtain ⟨W1, hW⟩ : ∃ W, W = w1.alloc (.cells #[.slice p1 q1 r1, .slice p2 q2 r2, .slice p3 q3 r3] 28) := ⟨_, rfl⟩
  have hb2 : RowKit.Below w1.heap.size w1 W1 := by rw [hW]; exact (Below.refl _ _).alloc (Nat.le_refl _) _
  have hp : C3 W1 w1.heap.size (.slice p1 q1 r1) (.slice p2 q2 r2) (.slice p3 q3 r3) := by rw [hW]; exact C3.new _ _ _ _
  rw [← hW]
  obtain ⟨k5, hk5⟩ : ∃ n, n = w1.heap.size := ⟨_, rfl⟩
  rw [← hk5] at hp ⊢
  have HL1 := Lib.hid (HC.out.below hb2)
  have HP1 := Lib.hid hp
  have HBa := Lib.hid (below_then HB1.out (Nat.le_refl _) hb2)
  clear hW hb2 hp hk5 HC HB1
  go_wp2_with fail
  refine (HRO.out W1 HBa.out).mono ?_
  rintro e w2 ⟨v2, rfl, hc2, hb⟩
  have HC2 := Lib.hid (c_refall hc2 HG.out (by decide))
  have HL2 := Lib.hid (HL1.out.below hb)
  have HP2 := Lib.hid (HP1.out.below hb)
  have HB2 := Lib.hid (below_then HBa.out (Nat.le_refl _) hb)
  clear hc2 hb HL1 HP1 HBa
  go_wp2_with fail
  refine HC2.out.mono ?_
  rintro e w3 ⟨v3, rfl, ⟨RA, eRA, hRA⟩, hb⟩
  obtain ⟨ro, rc, rfl, -, -⟩ := hRA.form
  have hRA40 : RA.length ≤ 40 := by
    have h1 := congrArg List.length eRA
    rw [List.length_map] at h1
    have h2 := len_allF x
    have h3 := HG.out.okc.len
    omega
  obtain ⟨nr, hnr⟩ : ∃ k, k = RA.length := ⟨_, rfl⟩
  rw [← hnr] at hRA ⊢
  have HNR := Lib.hid hnr
  have hn40 : nr ≤ 40 := by omega
  have HER := Lib.hid eRA
  have HR3 := Lib.hid hRA
  have HL3 := Lib.hid (HL2.out.below hb)
  have HP3 := Lib.hid (HP2.out.below hb)
  have HB3 := Lib.hid (below_then HB2.out (Nat.le_refl _) hb)
  clear hRA eRA hb hnr HL2 HP2 HB2 HC2
  go_wp2_with fail
  refine (entries_any (.slice ro nr rc) RA w3 HR3.out (by omega)).mono ?_
  rintro e w4 ⟨v4, rfl, hw4, hb⟩
  obtain ⟨wo, wc, rfl, -, -⟩ := Lst.form hw4
  obtain ⟨WL, hWL⟩ : ∃ l, l = Diffs.rowF (RA.map entR) := ⟨_, rfl⟩
  rw [← hWL] at hw4 ⊢
  have HWL := Lib.hid (show WL = Diffs.rowF ((allF x).map Diffs.entOf) from by rw [hWL, ← HER.out, List.map_map]; rfl)
  have hWl : WL.length ≤ 40 := by rw [hWL]; have := Diffs.rowF_len (RA.map entR); rw [List.length_map] at this; omega
  have HW4 := Lib.hid hw4
  have HR4 := Lib.hid (HR3.out.below hb)
  have HL4 := Lib.hid (HL3.out.below hb)
  have HP4 := Lib.hid (HP3.out.below hb)
  have HB4 := Lib.hid (below_then HB3.out (Nat.le_refl _) hb)
  have HE4 := Lib.hid (fun W (h : RowKit.Below w4.heap.size w4 W) => show Diffs.ERow W (.slice eo E.length ec) E from Lst.below HVE.out (below_then HB4.out (Nat.le_refl _) h))
  clear hw4 hb hWL HR3 HL3 HP3 HB3
  obtain ⟨i0, hi, hz0, hz1, hz2⟩ := info_parts info_M
  have HI := Lib.hid (And.intro hi (And.intro hz0 (And.intro hz1 hz2)))
  clear hi hz0 hz1 hz2
  obtain ⟨P, hP⟩ : ∃ P : Ro → Bool, P = fun y => inR E y.1 := ⟨_, rfl⟩
  have HPP := Lib.hid hP
  clear hP
  go_wp2_with fail
  go_loopw [8, 9] (fun pv iv wr => ∃ (k np : Nat), k ≤ nr ∧ iv = .int .i64 k ∧ np ≤ k ∧ Hid (np = ((RA.take k).filter P).length) ∧ Hid (wr.ownsRow w4.heap.size 51 10 pv np (((RA.take k).filter P).flatMap enM)) ∧ Hid (RowKit.Below w4.heap.size w4 wr)) (fun _ iv _ => nr - (intOf iv).toNat)
  case atStart => exact ⟨0, 0, by omega, rfl, by omega, Lib.hid rfl, Lib.hid (World.ownsRow_nil _ _ _ _), Lib.hid (Below.refl _ _)⟩
  case round =>
    obtain ⟨k, np, hk, rfl, hnp, hnl, hown, hbl⟩ := hrel
    by_cases hlt : k < nr
    · obtain ⟨y, hy⟩ : ∃ y, RA[k]? = some y := ⟨_, List.getElem?_eq_getElem (by have := HNR.out; omega)⟩
      have hmr := HR4.out.below hbl.out
      obtain ⟨xb, xoff, hao, hat⟩ := hmr.at_ hy
      cases hao
      obtain ⟨xo, xc, xe, -, -⟩ := Over.form (hmr.over y (List.mem_of_getElem? hy))
      have htk : (RA.take (k + 1)).filter P = (RA.take k).filter P ++ if P y then [y] else [] := by
        rw [List.take_add_one, hy, Option.toList_some, List.filter_append, List.filter_cons, List.filter_nil]
      obtain ⟨q, hq⟩ : ∃ q, q = P y := ⟨_, rfl⟩
      rw [← hq] at htk
      have hq2 : Diffs.hasE E (entR y) = q := by rw [hq, HPP.out]; rfl
      have HCON := Lib.hid (fun (W : World) (h : RowKit.Below wr.heap.size wr W) => show Calls Tryz.prog 31 #[.slice eo E.length ec, .agg #[.string y.1.key, .int .i64 y.1.at_.p, .int .i64 y.1.at_.l, .int .i64 y.1.at_.w]] W (fun e w' => e = .returned (.bool q) ∧ RowKit.Below W.heap.size W w') from by
        rw [← hq2]
        exact Diffs.contains_any eo ec E (entR y) W (HE4.out W (below_then hbl.out (Nat.le_refl _) h)) (by omega))
      have HTK := Lib.hid htk
      have HAT := Lib.hid hat
      have HXE := Lib.hid xe
      clear hy hmr hat htk hq hq2 xe
      obtain ⟨hbl0, a0, a1, a2, a3, a4, a5, a6, a7, a8, a9⟩ := HAT.out
      have j0 : (0 : Int) ≤ (k : Int) := by omega
      have j1 : (k : Int) < (nr : Int) := by omega
      go_wp2_with fail
      refine wp_region_calm (by kernel_rfl) (by kernel_rfl) ?_
      repeat (go_big_quiet_step (first | (go_at_call 31; exact calm (HCON.out _ (BW.below _)))))
      refine wpQuiet_nil ?_
      rintro _ ⟨z, rfl⟩
      obtain ⟨W3, hW3⟩ : ∃ W3, W3 = z.at := ⟨_, rfl⟩
      have hz := z.below
      rw [← hW3] at hz ⊢
      have HZ3 := Lib.hid hz
      have HB3 := Lib.hid (below_then hbl.out (Nat.le_refl _) hz)
      have HO3 := Lib.hid (row_below hown.out hz)
      clear hW3 z hz a0 a1 a2 a3 a4 a5 a6 a7 a8 a9
      cases q
      · have HN2 := Lib.hid (show np = ((RA.take (k + 1)).filter P).length from by rw [HTK.out, hnl.out]; simp)
        have HO2 := Lib.hid (show W3.ownsRow w4.heap.size 51 10 u8 np (((RA.take (k + 1)).filter P).flatMap enM) from by rw [HTK.out]; simpa using HO3.out)
        go_wp2_with fail
        go_roundw
        case rel => exact ⟨k + 1, np, by omega, by go_num, by omega, HN2, HO2, HB3⟩
        case measure => simp [intOf]; omega
      · have hat3 := HAT.out.below HZ3.out
        obtain ⟨hbl3, a0, a1, a2, a3, a4, a5, a6, a7, a8, a9⟩ := hat3
        rw [HXE.out] at a9
        obtain ⟨W5, hW5⟩ : ∃ W5, W5 = W3.alloc (.cells #[.int .i64 y.1.table, .int .i64 y.1.kind, .string y.1.key, .string y.1.fin, .string y.1.val, .int .i64 y.1.expiry, .int .i64 y.1.at_.p, .int .i64 y.1.at_.l, .int .i64 y.1.at_.w, .slice xo y.1.over.length xc] 51) := ⟨_, rfl⟩
        have hb5 : RowKit.Below W3.heap.size W3 W5 := by rw [hW5]; exact (Below.refl _ W3).alloc (Nat.le_refl _) _
        have hex : enM y = [.int .i64 y.1.table, .int .i64 y.1.kind, .string y.1.key, .string y.1.fin, .string y.1.val, .int .i64 y.1.expiry, .int .i64 y.1.at_.p, .int .i64 y.1.at_.l, .int .i64 y.1.at_.w, .slice xo y.1.over.length xc] := by unfold enM; rw [HXE.out]
        have hnews : ∀ j u, (enM y)[j]? = some u → W5.cell? ((⟨W3.heap.size, 0, none⟩ : Addr).add j) = some u := by
          rw [hW5, hex]
          exact new_cells W3 _ 51
        have hone : ∀ u ∈ enM y, u.oneCell' = true := by
          have h := flatM_one (l := [y]) (fun z hz => by rw [List.mem_singleton.1 hz]; exact ⟨_, _, _, HXE.out⟩)
          simpa using h
        have HO5 := Lib.hid (row_below HO3.out hb5)
        have HB5 := Lib.hid (below_then HB3.out (Nat.le_refl _) hb5)
        have HNW := Lib.hid hnews
        have HON := Lib.hid hone
        have hsz5 : w4.heap.size ≤ W5.heap.size := HB5.out.size
        have HW5 := Lib.hid hW5
        clear hW5 hb5 hnews hone hex
        go_wp2_with (at_builtin; go_loud (rw [← HW5.out]; refine wpList_append_any _ rfl (.tmp 43) (.tmp 48) 22 rfl w4.heap.size 51 i0 zeroM 10 120 Tryz.underlying22 HI.out.1 HI.out.2.1 HI.out.2.2.1 HI.out.2.2.2 rfl (by decide) u8 np _ rfl HO5.out (some ⟨W3.heap.size, 0, none⟩) 1 1 (enM y) rfl rfl (Or.inr ⟨_, rfl, HNW.out⟩) HON.out (by unfold maxLen; omega) (by omega) hsz5 ?_))
        intro v6 w6 ho6 hg6 hat6
        have HN2 := Lib.hid (show np + 1 = ((RA.take (k + 1)).filter P).length from by rw [HTK.out, hnl.out]; simp)
        have HO6 := Lib.hid (show w6.ownsRow w4.heap.size 51 10 v6 (np + 1) (((RA.take (k + 1)).filter P).flatMap enM) from by
          rw [HTK.out, List.flatMap_append]
          have h := ho6
          simpa using h)
        have HB6 := Lib.hid (HB5.out.grown hg6 hsz5 (fun m hm => (HO5.out.lt m hm).1))
        clear ho6 hg6 hat6 a0 a1 a2 a3 a4 a5 a6 a7 a8 a9
        go_wp2_with fail
        go_roundw
        case rel => exact ⟨k + 1, np + 1, by omega, by go_num, by omega, HN2, HO6, HB6⟩
        case measure => simp [intOf]; omega
    · have hkn : k = nr := by omega
      have htk : RA.take k = RA := List.take_of_length_le (by have := HNR.out; omega)
      obtain ⟨w9, hw9⟩ : ∃ W, W = wr := ⟨_, rfl⟩
      subst hw9
      rw [htk] at hnl hown
      obtain ⟨PR, hPR⟩ : ∃ l, l = RA.filter P := ⟨_, rfl⟩
      rw [← hPR] at hnl hown
      have hmr := HR4.out.below hbl.out
      have HPR := Lib.hid (show MRow w9 u8 PR from ⟨Lst.owned enM_len (by decide) hnl.out hown.out, fun y hy => hmr.over y (by rw [hPR] at hy; exact (List.mem_filter.1 hy).1)⟩)
      have HPM := Lib.hid (show PR.map (·.1) = (allF x).filter fun m => inR E m from by
        rw [hPR, ← HER.out, List.filter_map, HPP.out]
        rfl)
      have HPS := Lib.hid (show ∀ y ∈ PR, Small y.1 from fun y hy => by
        have h1 : y.1 ∈ (allF x).filter fun m => inR E m := by rw [← HPM.out]; exact List.mem_map.2 ⟨y, hy, rfl⟩
        exact small_right (HG.out.okc.right _ (mem_allF.1 (List.mem_filter.1 h1).1)))
      have HPIK := Lib.hid (show ((allF x).filter fun m => inR (Diffs.rowF E) m) = (allF x).filter fun m => inR E m from by
        refine List.filter_congr fun m _ => ?_
        unfold inR
        exact hasE_congr (fun z => Diffs.rowF_mem E z) _)
      have HL9 := Lib.hid (HL4.out.below hbl.out)
      have HP9 := Lib.hid (HP4.out.below hbl.out)
      have HW9 := Lib.hid (Lst.below HW4.out hbl.out)
      have HB9 := Lib.hid (below_then HB4.out (Nat.le_refl _) hbl.out)
      have HE9 := Lib.hid (fun W (h : RowKit.Below w9.heap.size w9 W) => HE4.out W (below_then hbl.out (Nat.le_refl _) h))
      have hltn : ¬ ((k : Int) < (nr : Int)) := by omega
      clear htk hnl hown hPR hmr hnp hkn hk hlt
      go_wp2_with fail
      refine wp_region_told [] 15 [false, false, false, false, false, false, false, false, false, false, false, false, false, false, false, false, false, false, false, false, false, false, false, false, false, false, false, false, false, false, false, false, false, false, false, false, false, false, false, false, false, false, false, false, false, false, false, false, false, false, true, true, true, true, true, true, true, true, true, true, true, true, true, true, true]
        [sLit (.agg #[.slice p1 q1 r1, .slice p2 q2 r2, .slice p3 q3 r3]),
    sOne (fun v W => Diffs.ERow W v (WL)) (fun _ _ _ h hb => Lst.below h hb),
    sLit (.slice wo WL.length wc),
    sLit (.bool true),
    sLit (.bool true),
    sLit (.agg #[.slice p1 q1 r1, .slice p2 q2 r2, .slice p3 q3 r3]),
    sLit (.slice eo E.length ec),
    sOne (fun v W => Diffs.ERow W v (Diffs.rowF E)) (fun _ _ _ h hb => Lst.below h hb),
    sOne (fun v W => Reads W v ((allF x).filter fun m => inR E m)) (fun _ _ _ h hb => h.below hb),
    sLit (u8),
    sLit (.bool true),
    sLit (.bool true),
    sLit (.bool true),
    sLit (.bool true),
    sLit (.bool true)] (by kernel_rfl) (by kernel_rfl) (by kernel_rfl) (fun F hF => ?_)
      simp only [over, overL, Nat.reduceAdd] at hF
      obtain rfl := funext hF
      clear hF
      refine ⟨⟨?_, ?_, ?_, ?_, ?_, ?_, ?_, ?_, ?_, ?_, ?_, ?_, ?_, ?_, ?_, trivial⟩, ?_⟩
      · intro V W hb hd K hK _
        clear hd
        obtain ⟨-, s0, s1, s2, -⟩ := (HP9.out.below hb)
        go_wp2_with fail
        refine hK _ _ ?_ ?_ ?_ ?_
        · rfl
        · exact Below.refl _ _
        · exact rfl
        · trivial
      · intro V W hb hd K hK _
        have h0 : (V 50) = .agg #[.slice p1 q1 r1, .slice p2 q2 r2, .slice p3 q3 r3] := hd 0 (by kernel_rfl)
        clear hd
        go_wp2_with fail
        refine ((by have h := Diffs.manifest_any (HL9.out.below hb).is HG.out (by decide); rw [← HWL.out] at h; exact h : Calls _ _ _ W (Diffs.RowPost W WL))).mono ?_
        rintro e w1 ⟨v1, rfl, hv1, hb1⟩
        go_wp2_with fail
        refine hK _ _ ?_ ?_ ?_ ?_
        · rfl
        · exact hb1
        · exact hv1
        · trivial
      · intro V W hb hd K hK _
        clear hd
        go_wp2_with fail
        refine hK _ _ ?_ ?_ ?_ ?_
        · rfl
        · exact Below.refl _ _
        · exact rfl
        · trivial
      · intro V W hb hd K hK _
        have h1 : Diffs.ERow W (V 51) (WL) := hd 1 (by kernel_rfl)
        have h2 : (V 52) = .slice wo WL.length wc := hd 2 (by kernel_rfl)
        clear hd
        obtain ⟨mo, mc, em, -, -⟩ := Lst.form h1
        rw [em] at h1
        go_wp2_with fail
        refine (Diffs.equal_lit true mo wo mc wc WL WL W ((Diffs.eqR_iff WL WL).2 rfl) h1 (Lst.below HW9.out hb) (by omega) (by omega)).mono ?_
        rintro e w1 ⟨rfl, hb1⟩
        go_wp2_with fail
        refine hK _ _ ?_ ?_ ?_ ?_
        · rfl
        · exact hb1
        · exact rfl
        · trivial
      · intro V W hb hd K hK _
        have h3 : (V 53) = .bool true := hd 3 (by kernel_rfl)
        clear hd
        go_wp2_with fail
        refine hK _ _ ?_ ?_ ?_ ?_
        · rfl
        · exact Below.refl _ _
        · exact rfl
        · trivial
      · intro V W hb hd K hK _
        have h4 : (V 54) = .bool true := hd 4 (by kernel_rfl)
        clear hd
        obtain ⟨-, s0, s1, s2, -⟩ := (HP9.out.below hb)
        go_wp2_with fail
        refine hK _ _ ?_ ?_ ?_ ?_
        · rfl
        · exact Below.refl _ _
        · exact rfl
        · trivial
      · intro V W hb hd K hK _
        have h4 : (V 54) = .bool true := hd 4 (by kernel_rfl)
        clear hd
        go_wp2_with fail
        refine hK _ _ ?_ ?_ ?_ ?_
        · rfl
        · exact Below.refl _ _
        · exact rfl
        · trivial
      · intro V W hb hd K hK _
        have h4 : (V 54) = .bool true := hd 4 (by kernel_rfl)
        have h6 : (V 56) = .slice eo E.length ec := hd 6 (by kernel_rfl)
        clear hd
        go_wp2_with fail
        refine (Diffs.row_any eo ec E W (HE9.out W hb) (by omega)).mono ?_
        rintro e w1 ⟨v1, rfl, hv1, hb1⟩
        go_wp2_with fail
        refine hK _ _ ?_ ?_ ?_ ?_
        · rfl
        · exact hb1
        · exact hv1
        · trivial
      · intro V W hb hd K hK _
        have h4 : (V 54) = .bool true := hd 4 (by kernel_rfl)
        have h5 : (V 55) = .agg #[.slice p1 q1 r1, .slice p2 q2 r2, .slice p3 q3 r3] := hd 5 (by kernel_rfl)
        have h7 : Diffs.ERow W (V 57) (Diffs.rowF E) := hd 7 (by kernel_rfl)
        clear hd
        go_wp2_with fail
        refine ((by have h := c_pick (HL9.out.below hb).is HG.out (by decide) h7 (Diffs.rowF_srt E) (by have := Diffs.rowF_len E; omega); rw [HPIK.out] at h; exact h : Calls _ _ _ W (RetR ((allF x).filter fun m => inR E m) W))).mono ?_
        rintro e w1 ⟨v1, rfl, hv1, hb1⟩
        go_wp2_with fail
        refine hK _ _ ?_ ?_ ?_ ?_
        · rfl
        · exact hb1
        · exact hv1
        · trivial
      · intro V W hb hd K hK _
        have h4 : (V 54) = .bool true := hd 4 (by kernel_rfl)
        clear hd
        go_wp2_with fail
        refine hK _ _ ?_ ?_ ?_ ?_
        · rfl
        · exact Below.refl _ _
        · exact rfl
        · trivial
      · intro V W hb hd K hK _
        have h4 : (V 54) = .bool true := hd 4 (by kernel_rfl)
        have h8 : Reads W (V 58) ((allF x).filter fun m => inR E m) := hd 8 (by kernel_rfl)
        have h9 : (V 59) = u8 := hd 9 (by kernel_rfl)
        clear hd
        obtain ⟨RP, eRP, hRP⟩ := h8
        have hsP : ∀ y ∈ RP, Small y.1 := fun y hy => by
          have h1 : y.1 ∈ (allF x).filter fun m => inR E m := by rw [← eRP]; exact List.mem_map.2 ⟨y, hy, rfl⟩
          exact small_right (HG.out.okc.right _ (mem_allF.1 (List.mem_filter.1 h1).1))
        go_wp2_with fail
        refine ((by have h := refsame_any _ _ RP PR W hRP (HPR.out.below hb) hsP HPS.out; rw [eRP, HPM.out, (eqF_iff _ _).2 rfl] at h; exact h : Calls _ _ _ W (RetB true W))).mono ?_
        rintro e w1 ⟨rfl, hb1⟩
        go_wp2_with fail
        refine hK _ _ ?_ ?_ ?_ ?_
        · rfl
        · exact hb1
        · exact rfl
        · trivial
      · intro V W hb hd K hK _
        have h4 : (V 54) = .bool true := hd 4 (by kernel_rfl)
        have h10 : (V 60) = .bool true := hd 10 (by kernel_rfl)
        clear hd
        go_wp2_with fail
        refine hK _ _ ?_ ?_ ?_ ?_
        · rfl
        · exact Below.refl _ _
        · exact rfl
        · trivial
      · intro V W hb hd K hK _
        have h11 : (V 61) = .bool true := hd 11 (by kernel_rfl)
        clear hd
        go_wp2_with fail
        refine hK _ _ ?_ ?_ ?_ ?_
        · rfl
        · exact Below.refl _ _
        · exact rfl
        · trivial
      · intro V W hb hd K hK _
        have h12 : (V 62) = .bool true := hd 12 (by kernel_rfl)
        clear hd
        go_wp2_with fail
        refine (Diffs.alive_any W).mono ?_
        rintro e w1 ⟨rfl, hb1⟩
        go_wp2_with fail
        refine hK _ _ ?_ ?_ ?_ ?_
        · rfl
        · exact hb1
        · exact rfl
        · trivial
      · intro V W hb hd K hK _
        have h12 : (V 62) = .bool true := hd 12 (by kernel_rfl)
        have h13 : (V 63) = .bool true := hd 13 (by kernel_rfl)
        clear hd
        go_wp2_with fail
        refine hK _ _ ?_ ?_ ?_ ?_
        · rfl
        · exact Below.refl _ _
        · exact rfl
        · trivial
      · intro V W hb hd hap
        have h14 : (V 64) = .bool true := hd 14 (by decide)
        clear hd hap
        simp only [List.drop_succ_cons, List.drop_zero]
        have HBz := Lib.hid (below_then HB9.out (Nat.le_refl _) hb)
        clear hb
        go_wp2_with fail
        go_ret
        exact ⟨rfl, HBz.out⟩
end Go.Proofs.YtmfhmcegmeinnaaGreatDoor.Mut
