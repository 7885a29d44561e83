/- What one content lacks of another one: the program's Missing and the reference's (layer 25). PRINTED by wip/genunion.py. -/
import Derived.Test.YtipoeigehabbmaaGreatDoorUniPlain
namespace Go.Proofs.YtipoeigehabbmaaGreatDoor.Mut
open Go.RowKit Go.Sort Go.Proofs.YtipoeigehabbmaaGreatDoor.Ord Go.Proofs.YtipoeigehabbmaaGreatDoor.RegInv
set_option linter.unusedSectionVars false
variable [Inhabited Lim]

set_option maxHeartbeats 4000000 in
set_option maxRecDepth 100000 in
theorem c_missing {x y : Con} {nx ny : Nat} {v v' : Value} {w : World} (hT0 : Tabs w) (hv : IsC x v w) (hx : Good x nx) (hv' : IsC y v' w) (hy : Good y ny) (hn : nx ≤ 10000 ∧ ny ≤ 10000) :
    Calls Tryz.prog 16 #[v, v'] w (RetR (missF x y) w) := by
  obtain ⟨o1, n1, k1, o2, n2, k2, o3, n3, k3, rfl, hlx⟩ := hv.form
  obtain ⟨o4, n4, k4, o5, n5, k5, o6, n6, k6, rfl, hly⟩ := hv'.form
  have hlen := len_allF x
  have hlo := hx.okc.len
  have hsm : ∀ m ∈ allF x, Small m := fun m hm => small_right (hx.okc.right m (mem_allF.1 hm))
  obtain ⟨Wa, hWa⟩ : ∃ Wa, Wa = (w.alloc (.cells #[.slice o1 n1 k1, .slice o2 n2 k2, .slice o3 n3 k3] 25)).alloc (.cells #[.slice o4 n4 k4, .slice o5 n5 k5, .slice o6 n6 k6] 25) := ⟨_, rfl⟩
  have hba : RowKit.Below w.heap.size w Wa := by rw [hWa]; exact ((Below.refl _ w).alloc (Nat.le_refl _) _).alloc (by simp) _
  have hPa : C3 Wa w.heap.size (.slice o1 n1 k1) (.slice o2 n2 k2) (.slice o3 n3 k3) := by
    rw [hWa]
    exact (C3.new w _ _ _).below ((Below.refl _ _).alloc (Nat.le_refl _) _)
  have hPb : C3 Wa (w.heap.size + 1) (.slice o4 n4 k4) (.slice o5 n5 k5) (.slice o6 n6 k6) := by
    rw [hWa]
    have := C3.new (w.alloc (.cells #[.slice o1 n1 k1, .slice o2 n2 k2, .slice o3 n3 k3] 25)) (.slice o4 n4 k4) (.slice o5 n5 k5) (.slice o6 n6 k6)
    rwa [World.size_alloc] at this
  have HAll := Lib.hid (c_all (n := nx) (hv.below hba) hx (by omega))
  have HYa := Lib.hid (fun W (h : RowKit.Below Wa.heap.size Wa W) => hv'.below (below_then hba (Nat.le_refl _) h))
  have HTa := Lib.hid (fun W (h : RowKit.Below Wa.heap.size Wa W) => hT0.below (below_then hba (Nat.le_refl _) h))
  have HGy := Lib.hid hy
  have HNN := Lib.hid hn
  have HLA := Lib.hid (And.intro hlen (And.intro hlo hsm))
  have HPa := Lib.hid hPa
  have HPb := Lib.hid hPb
  have HBa := Lib.hid hba
  have HW := Lib.hid hWa
  clear hlx hly hv hv' hx hy hn hlen hlo hsm hba hPa hPb hWa hT0
  go_enter Tryz.func16, Tryz.ntmps16
  go_upto_region 1 with fail
  rw [← HW.out]
  clear HW
  obtain ⟨-, p0, p1, p2, -⟩ := HPa.out
  go_wp2_with fail
  refine HAll.out.mono ?_
  rintro e W0 ⟨g, cap, R, rfl, hcp, hR, hb0⟩
  have hd := hcp.mrow
  have hl1 : R.length ≤ 10000 := by have h1 := congrArg List.length hR; rw [List.length_map] at h1; have := HLA.out.1; have := HLA.out.2.1; have := HNN.out; omega
  have HSM := Lib.hid (show ∀ x ∈ R, Small x.1 from fun z hz => HLA.out.2.2 _ (hR ▸ List.mem_map.2 ⟨z, hz, rfl⟩))
  obtain ⟨n, hN⟩ : ∃ n, n = R.length := ⟨_, rfl⟩
  obtain ⟨F, hF⟩ : ∃ F : Ro → Bool, F = fun z => !conB (addC y z.1) y := ⟨_, rfl⟩
  obtain ⟨Q, hQ⟩ : ∃ Q, Q = R.filter F := ⟨_, rfl⟩
  have HLQ := Lib.hid (show Q.map (·.1) = missF x y by rw [hQ]; unfold missF; rw [← hR, List.filter_map, hF]; rfl)
  have HFx := Lib.hid (show ∀ z : Ro, F z = !conB (addC y z.1) y from fun z => by rw [hF])
  rw [← hN] at hd hl1 ⊢
  obtain ⟨ga, hga⟩ : ∃ ga : Option Addr, ga = some ⟨g, 0, none⟩ := ⟨_, rfl⟩
  rw [← hga] at hd ⊢
  have HV := Lib.hid hd
  have HQ := Lib.hid hQ
  have HN := Lib.hid hN
  have HP2 := Lib.hid (HPb.out.below hb0)
  have HY := Lib.hid (fun W (h : RowKit.Below W0.heap.size W0 W) => HYa.out W (below_then hb0 (Nat.le_refl _) h))
  have HT := Lib.hid (fun W (h : RowKit.Below W0.heap.size W0 W) => HTa.out W (below_then hb0 (Nat.le_refl _) h))
  have HBase := Lib.hid (below_then HBa.out (Nat.le_refl _) hb0)
  have HB0 := Lib.hid (Below.refl W0.heap.size W0)
  clear hR hd hcp hN hQ hb0 hF hga p0 p1 p2 HAll HPa HPb HYa HTa HBa HLA
  go_wp2_with fail
  go_loopw [5, 11] (fun ov iv wr => ∃ (k on : Nat) (out : List Ro), k ≤ n ∧ iv = .int .i64 k ∧ Hid (out ++ (R.drop k).filter F = Q) ∧ Hid (on = out.length) ∧ on ≤ k ∧ Hid (wr.ownsRow W0.heap.size 35 10 ov on (out.flatMap enM)) ∧ Hid (RowKit.Below W0.heap.size W0 wr)) (fun _ iv _ => n - (intOf iv).toNat)
  case atStart => exact ⟨0, 0, [], by omega, rfl, Lib.hid (by rw [HQ.out]; rfl), Lib.hid rfl, by simp, Lib.hid (World.ownsRow_nil _ _ _ _), Lib.hid (Below.refl _ _)⟩
  case round =>
    obtain ⟨k, on, out, hk, rfl, hput, hol2, hol, hown, hl⟩ := hrel
    have HBW := Lib.hid (below_then HB0.out (Nat.le_refl _) hl.out)
    by_cases hlt : k < n
    · have hkr : k < R.length := by have := HN.out; omega
      obtain ⟨x, hx⟩ : ∃ x, R[k]? = some x := ⟨_, List.getElem?_eq_getElem hkr⟩
      have hxe : R[k] = x := (List.getElem?_eq_some_iff.1 hx).2
      have hxm := List.mem_of_getElem? hx
      have hxo := (HV.out.below HBW.out).over x hxm
      obtain ⟨xb, xoff, hao, hat⟩ := (HV.out.below HBW.out).at_ hx
      cases hao
      have hst := hput.out
      rw [List.drop_eq_getElem_cons hkr, hxe] at hst
      have HXO := Lib.hid hxo
      obtain ⟨xo, xc, ex, -, -⟩ := Over.form hxo
      obtain ⟨D, hD⟩ : ∃ D, D = F x := ⟨_, rfl⟩
      have HADD := Lib.hid (fun W (hW : RowKit.Below wr.heap.size wr W) => show Calls Tryz.prog 17 #[.agg #[.slice o4 n4 k4, .slice o5 n5 k5, .slice o6 n6 k6], vM x] W (RetC (addC y x.1) W) from c_add (n := ny) (HT.out W (below_then hl.out (Nat.le_refl _) hW)) (HY.out W (below_then hl.out (Nat.le_refl _) hW)) HGy.out (by have := HNN.out; omega) (Over.below hxo hW) (HSM.out x hxm))
      obtain ⟨cm, hcm⟩ : ∃ cm, cm = addC y x.1 := ⟨_, rfl⟩
      rw [← hcm] at HADD
      obtain ⟨q, hq⟩ : ∃ q, q = conB cm y := ⟨_, rfl⟩
      have hDq : D = !q := by rw [hD, hq, hcm]; exact HFx.out x
      have HGc := Lib.hid (show Good cm (ny + 1) by rw [hcm]; exact addC_good HGy.out x.1)
      have HSAME := Lib.hid (fun v W (hv : IsC cm v W) (hW : RowKit.Below wr.heap.size wr W) => show Calls Tryz.prog 26 #[v, .agg #[.slice o4 n4 k4, .slice o5 n5 k5, .slice o6 n6 k6]] W (RetB q W) from c_same q (by rw [hq]; exact conB_iff _ _) hv HGc.out (HY.out W (below_then hl.out (Nat.le_refl _) hW)) HGy.out (by have := HNN.out; omega) (by have := HNN.out; omega))
      rw [List.filter_cons, ← hD, hDq] at hst
      have HOX := Lib.hid (fun W (hW : RowKit.Below wr.heap.size wr W) => Over.below hxo hW); clear hD hDq hq hcm hput hx hxe hxo hxm
      have HAT := Lib.hid hat
      clear hat
      obtain ⟨⟨at1, ak1, akey1, afin1, aval1, aex1, ⟨ap1, al1, aw1⟩, aov1⟩, av1⟩ := x
      simp only [] at ex
      obtain ⟨xn, hxn⟩ : ∃ k, k = aov1.length := ⟨_, rfl⟩
      rw [← hxn] at ex
      subst ex
      clear hxn
      unfold vM at HADD
      simp only [] at HADD
      have HST := Lib.hid hst
      clear hst
      obtain ⟨hbl, a0, a1, a2, a3, a4, a5, a6, a7, a8, a9⟩ := HAT.out
      simp only [] at a0 a1 a2 a3 a4 a5 a6 a7 a8 a9
      have j0 : (0 : Int) ≤ (k : Int) := by omega
      have j1 : (k : Int) < (n : Int) := by omega
      have hA0 := A0.of (At.new wr 35 (⟨⟨at1, ak1, akey1, afin1, aval1, aex1, ⟨ap1, al1, aw1⟩, aov1⟩, .slice xo xn xc⟩ : Ro))
      unfold enM at hA0
      simp only [] at hA0
      go_upto_region 5 with fail
      obtain ⟨Wm, hWm⟩ : ∃ Wm, Wm = wr.alloc (.cells #[.int .i64 at1, .int .i64 ak1, .string akey1, .string afin1, .string aval1, .int .i64 aex1, .int .i64 ap1, .int .i64 al1, .int .i64 aw1, .slice xo xn xc] 35) := ⟨_, rfl⟩
      rw [← hWm]
      have hbm : RowKit.Below wr.heap.size wr Wm := by rw [hWm]; exact (Below.refl _ _).alloc (Nat.le_refl _) _
      have hAm : A0 Wm wr.heap.size (⟨⟨at1, ak1, akey1, afin1, aval1, aex1, ⟨ap1, al1, aw1⟩, aov1⟩, .slice xo xn xc⟩ : Ro) := by rw [hWm]; exact hA0
      have HAm := Lib.hid hAm
      have HBm := Lib.hid hbm
      obtain ⟨nw, hnw⟩ : ∃ nw, nw = wr.heap.size := ⟨_, rfl⟩
      rw [← hnw] at HAm ⊢
      have HC2 := Lib.hid (HP2.out.below (below_then hl.out (Nat.le_refl _) hbm))
      have HBz := Lib.hid (fun W (h : RowKit.Below Wm.heap.size Wm W) => below_then HBm.out (Nat.le_refl _) h)
      clear hWm hbm hAm hA0 hnw a0 a1 a2 a3 a4 a5 a6 a7 a8 a9 hbl
      go_wp2_with fail
      refine wp_region_told [] 5 [false, false, false, false, false, false, false, false, false, false, false, false, false, false, false, true, true, true, true, true, false, false, false, false, false, false, false]
        [sLit (.agg #[.slice o4 n4 k4, .slice o5 n5 k5, .slice o6 n6 k6]),
      sLit (.agg #[.int .i64 at1, .int .i64 ak1, .string akey1, .string afin1, .string aval1, .int .i64 aex1, .int .i64 ap1, .int .i64 al1, .int .i64 aw1, .slice xo xn xc]),
      sOne (IsC (cm)) (fun _ _ _ h hb => h.below hb),
      sLit (.agg #[.slice o4 n4 k4, .slice o5 n5 k5, .slice o6 n6 k6]),
      sLit (.bool q)] (by kernel_rfl) (by kernel_rfl) (by kernel_rfl) (fun F hF => ?_)
      simp only [over, overL, Nat.reduceAdd] at hF
      obtain rfl := funext hF
      clear hF
      refine ⟨⟨?_, ?_, ?_, ?_, ?_, trivial⟩, ?_⟩
      · intro V W hb hd K hK _
        clear hd
        obtain ⟨-, s0, s1, s2, -⟩ := HC2.out.below hb
        go_wp2_with fail
        refine hK _ _ ?_ ?_ ?_ ?_
        · rfl
        · exact Below.refl _ _
        · exact rfl
        · trivial
      · intro V W hb hd K hK _
        clear hd
        obtain ⟨-, m0, m1, m2, m3, m4, m5, m6, m7, m8, m9⟩ := HAm.out.below hb
        go_wp2_with fail
        refine hK _ _ ?_ ?_ ?_ ?_
        · rfl
        · exact Below.refl _ _
        · exact rfl
        · trivial
      · intro V W hb hd K hK _
        have h0 : (V 15) = .agg #[.slice o4 n4 k4, .slice o5 n5 k5, .slice o6 n6 k6] := hd 0 (by kernel_rfl)
        have h1 : (V 16) = .agg #[.int .i64 at1, .int .i64 ak1, .string akey1, .string afin1, .string aval1, .int .i64 aex1, .int .i64 ap1, .int .i64 al1, .int .i64 aw1, .slice xo xn xc] := hd 1 (by kernel_rfl)
        clear hd
        go_wp2_with fail
        refine (HADD.out W (HBz.out W hb)).mono ?_
        rintro e w1 ⟨v1, rfl, hv1, hb1⟩
        go_wp2_with fail
        refine hK _ _ ?_ ?_ ?_ ?_
        · rfl
        · exact hb1
        · exact hv1
        · trivial
      · intro V W hb hd K hK _
        clear hd
        obtain ⟨-, s0, s1, s2, -⟩ := HC2.out.below hb
        go_wp2_with fail
        refine hK _ _ ?_ ?_ ?_ ?_
        · rfl
        · exact Below.refl _ _
        · exact rfl
        · trivial
      · intro V W hb hd K hK _
        have h2 : IsC (cm) (V 17) W := hd 2 (by kernel_rfl)
        have h3 : (V 18) = .agg #[.slice o4 n4 k4, .slice o5 n5 k5, .slice o6 n6 k6] := hd 3 (by kernel_rfl)
        clear hd
        go_wp2_with fail
        refine (HSAME.out _ W h2 (HBz.out W hb)).mono ?_
        rintro e w1 ⟨rfl, hb1⟩
        go_wp2_with fail
        refine hK _ _ ?_ ?_ ?_ ?_
        · rfl
        · exact hb1
        · exact rfl
        · trivial
      · intro V W hb hd hap
        have h4 : (V 19) = .bool q := hd 4 (by decide)
        clear hd hap
        simp only [List.drop_succ_cons, List.drop_zero]
        have HZ := Lib.hid (HBz.out W hb)
        have HF := Lib.hid (below_then hl.out (Nat.le_refl _) HZ.out)
        have HOi := Lib.hid (row_below hown.out HZ.out)
        have HX1 := Lib.hid (HOX.out W HZ.out)
        obtain ⟨hnl, m0, m1, m2, m3, m4, m5, m6, m7, m8, m9⟩ := HAm.out.below hb
        simp only [] at m0 m1 m2 m3 m4 m5 m6 m7 m8 m9
        have hsz := HF.out.size
        clear hb
        cases q
        · have HS2 := Lib.hid (show (out ++ [(⟨⟨at1, ak1, akey1, afin1, aval1, aex1, ⟨ap1, al1, aw1⟩, aov1⟩, .slice xo xn xc⟩ : Ro)]) ++ (R.drop (k + 1)).filter F = Q by have h : out ++ ((⟨⟨at1, ak1, akey1, afin1, aval1, aex1, ⟨ap1, al1, aw1⟩, aov1⟩, .slice xo xn xc⟩ : Ro) :: (R.drop (k + 1)).filter F) = Q := HST.out; rw [← h]; simp)
          go_wp2_with (at_builtin; refine wpList_append_rows rfl (.tmp 21) (.tmp 23) rfl W0.heap.size u5 on _ rfl (HOi.out.alloc _) (some ⟨W.heap.size, 0, none⟩) 1 1 [(⟨⟨at1, ak1, akey1, afin1, aval1, aex1, ⟨ap1, al1, aw1⟩, aov1⟩, .slice xo xn xc⟩ : Ro)] rfl (one_row HX1.out) (by omega) (by simp; omega) ?_)
          intro v4 w4 hown4 hgr4
          have HO4 := Lib.hid (show w4.ownsRow W0.heap.size 35 10 v4 (on + 1) ((out ++ [(⟨⟨at1, ak1, akey1, afin1, aval1, aex1, ⟨ap1, al1, aw1⟩, aov1⟩, .slice xo xn xc⟩ : Ro)]).flatMap enM) by rw [List.flatMap_append]; exact hown4)
          have HB4 := Lib.hid ((HF.out.alloc hsz _).grown hgr4 (by simp; omega) (fun k hk => (HOi.out.lt k hk).1))
          clear hown4 hgr4 m0 m1 m2 m3 m4 m5 m6 m7 m8 m9 h4
          go_wp2_with fail
          go_roundw
          case rel => exact ⟨k + 1, on + 1, _, by omega, by go_num, HS2, Lib.hid (by have := hol2.out; simp; omega), by omega, HO4, HB4⟩
          case measure => simp [intOf]; omega
        · have HS2 := Lib.hid (show out ++ (R.drop (k + 1)).filter F = Q from HST.out)
          go_wp2_with fail
          go_roundw
          case rel => exact ⟨k + 1, on, out, by omega, by go_num, HS2, hol2, by omega, HOi, HF⟩
          case measure => simp [intOf]; omega
    · obtain rfl : k = n := by omega
      have HQ2 := Lib.hid (show out = Q by have h := hput.out; rw [List.drop_of_length_le (by have := HN.out; omega)] at h; simpa using h)
      have HSUB := Lib.hid (show ∀ y ∈ Q, y ∈ R from fun y hy => by rw [HQ.out] at hy; exact (List.mem_filter.1 hy).1)
      have HMR := Lib.hid (show MRow wr u5 Q from ⟨by rw [← HQ2.out]; exact Lst.owned enM_len (by decide) hol2.out hown.out, fun y hy => (HV.out.over y (HSUB.out y hy)).below HBW.out⟩)
      go_wp2_with fail
      go_ret
      exact ⟨_, rfl, ⟨Q, HLQ.out, HMR.out⟩, below_then HBase.out (Nat.le_refl _) hl.out⟩
end Go.Proofs.YtipoeigehabbmaaGreatDoor.Mut
