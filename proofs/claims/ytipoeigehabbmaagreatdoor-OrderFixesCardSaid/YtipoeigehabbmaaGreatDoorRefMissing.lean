/- What one content lacks of another one, the reference's (layer 25). PRINTED by wip/genrefmissing.py. -/
import Derived.Test.YtipoeigehabbmaaGreatDoorUniPlain
set_option linter.unusedSimpArgs false
set_option linter.unusedVariables false
namespace Go.Proofs.YtipoeigehabbmaaGreatDoor.Mut
open Go.RowKit Go.Sort Go.Proofs.YtipoeigehabbmaaGreatDoor.Ord Go.Proofs.YtipoeigehabbmaaGreatDoor.RegInv
set_option linter.unusedSectionVars false
variable [Inhabited Lim]

/-- One element of a row, as a row. -/
theorem MRow.one {w : World} {b off n cap k : Nat} {R : List Ro} {x : Ro} (h : MRow w (.slice (some ⟨b, off, none⟩) n cap) R) (hk : R[k]? = some x) : MRow w (.slice (some ⟨b, off + k * 10, none⟩) 1 (cap - k)) [x] := by
  obtain ⟨ao, c, e, h1, h2, h3⟩ := h.row
  cases e
  obtain ⟨hlt, he⟩ := List.getElem?_eq_some_iff.1 hk
  refine ⟨⟨_, _, rfl, by show 1 ≤ cap - k; omega, by omega, Or.inr ?_⟩, fun y hy => ?_⟩
  · rcases h3 with h3 | ⟨b', off', e', hb, hc⟩
    · omega
    · cases e'
      refine ⟨b, off + k * 10, rfl, hb, fun i y hi j hj => ?_⟩
      have hi0 : i = 0 := by
        have := (List.getElem?_eq_some_iff.1 hi).1
        simp at this
        exact this
      subst hi0
      simp at hi
      subst hi
      have := hc k x hk j hj
      rw [← this]
      simp only [Nat.zero_mul, Nat.add_zero]
  · rw [List.mem_singleton.1 hy]
    exact h.over x (List.mem_of_getElem? hk)
theorem join_one (y : Con) (m : Mu) : joinC y (leftOf [m]) = addC y m := by
  unfold joinC addC
  exact leftOf_swallow2 _ _
set_option maxHeartbeats 4000000 in
set_option maxRecDepth 100000 in
theorem c_refmissing {x y : Con} {nx ny : Nat} {v v' : Value} {w : World} (hT0 : Tabs w) (hv : IsC x v w) (hx : Good x nx) (hv' : IsC y v' w) (hy : Good y ny) (hn : nx ≤ 8000 ∧ ny ≤ 8000) :
    Calls Tryz.prog 19 #[v, v'] w (RetR (missF x y) w) := by
  obtain ⟨o1, n1, k1, o2, n2, k2, o3, n3, k3, rfl, hlx⟩ := hv.form
  obtain ⟨o4, n4, k4, o5, n5, k5, o6, n6, k6, rfl, hly⟩ := hv'.form
  have hlen := len_allF x
  have hlo := hx.okc.len
  have hsm : ∀ m ∈ allF x, Small m := fun m hm => small_right (hx.okc.right m (mem_allF.1 hm))
  obtain ⟨Wa, hWa⟩ : ∃ Wa, Wa = (w.alloc (.cells #[.slice o1 n1 k1, .slice o2 n2 k2, .slice o3 n3 k3] 38)).alloc (.cells #[.slice o4 n4 k4, .slice o5 n5 k5, .slice o6 n6 k6] 38) := ⟨_, rfl⟩
  have hba : RowKit.Below w.heap.size w Wa := by rw [hWa]; exact ((Below.refl _ w).alloc (Nat.le_refl _) _).alloc (by simp) _
  have hPa : C3 Wa w.heap.size (.slice o1 n1 k1) (.slice o2 n2 k2) (.slice o3 n3 k3) := by
    rw [hWa]
    exact (C3.newR w _ _ _).below ((Below.refl _ _).alloc (Nat.le_refl _) _)
  have hPb : C3 Wa (w.heap.size + 1) (.slice o4 n4 k4) (.slice o5 n5 k5) (.slice o6 n6 k6) := by
    rw [hWa]
    have := C3.newR (w.alloc (.cells #[.slice o1 n1 k1, .slice o2 n2 k2, .slice o3 n3 k3] 38)) (.slice o4 n4 k4) (.slice o5 n5 k5) (.slice o6 n6 k6)
    rwa [World.size_alloc] at this
  have HAll := Lib.hid (c_refall (n := nx) (hv.below hba) hx (by omega))
  have HYa := Lib.hid (fun W (h : RowKit.Below Wa.heap.size Wa W) => hv'.below (below_then hba (Nat.le_refl _) h))
  have HTa := Lib.hid (fun W (h : RowKit.Below Wa.heap.size Wa W) => hT0.below (below_then hba (Nat.le_refl _) h))
  have HGy := Lib.hid hy
  have HNN := Lib.hid hn
  have HLA := Lib.hid (And.intro hlen (And.intro hlo hsm))
  have HPa := Lib.hid hPa
  have HPb := Lib.hid hPb
  have HBa := Lib.hid hba
  have HW := Lib.hid hWa
  clear hlx hly hv hv' hx hy hn hlen hlo hsm hba hPa hPb hWa hT0
  go_enter Tryz.func19, Tryz.ntmps19
  go_upto_region 1 with fail
  rw [← HW.out]
  clear HW
  obtain ⟨-, p0, p1, p2, -⟩ := HPa.out
  go_wp2_with fail
  refine HAll.out.mono ?_
  rintro e W0 ⟨va, rfl, ⟨R, hR, hd⟩, hb0⟩
  obtain ⟨ga, cap, rfl, hc1, hc2⟩ := Lst.form hd.row
  have hl1 : R.length ≤ 10000 := by have h1 := congrArg List.length hR; rw [List.length_map] at h1; have := HLA.out.1; have := HLA.out.2.1; have := HNN.out; omega
  have HSM := Lib.hid (show ∀ x ∈ R, Small x.1 from fun z hz => HLA.out.2.2 _ (hR ▸ List.mem_map.2 ⟨z, hz, rfl⟩))
  obtain ⟨n, hN⟩ : ∃ n, n = R.length := ⟨_, rfl⟩
  obtain ⟨F, hF⟩ : ∃ F : Ro → Bool, F = fun z => !conB (addC y z.1) y := ⟨_, rfl⟩
  obtain ⟨Q, hQ⟩ : ∃ Q, Q = R.filter F := ⟨_, rfl⟩
  have HLQ := Lib.hid (show Q.map (·.1) = missF x y by rw [hQ]; unfold missF; rw [← hR, List.filter_map, hF]; rfl)
  have HFx := Lib.hid (show ∀ z : Ro, F z = !conB (addC y z.1) y from fun z => by rw [hF])
  rw [← hN] at hd hl1 hc1 ⊢
  have HCAP := Lib.hid (And.intro hc1 hc2)
  have HV := Lib.hid hd
  have HQ := Lib.hid hQ
  have HN := Lib.hid hN
  have HP2 := Lib.hid (HPb.out.below hb0)
  have HY := Lib.hid (fun W (h : RowKit.Below W0.heap.size W0 W) => HYa.out W (below_then hb0 (Nat.le_refl _) h))
  have HT := Lib.hid (fun W (h : RowKit.Below W0.heap.size W0 W) => HTa.out W (below_then hb0 (Nat.le_refl _) h))
  have HBase := Lib.hid (below_then HBa.out (Nat.le_refl _) hb0)
  have HB0 := Lib.hid (Below.refl W0.heap.size W0)
  clear hR hd hN hQ hb0 hF hc1 hc2 p0 p1 p2 HAll HPa HPb HYa HTa HBa HLA
  go_wp2_with fail
  go_loopw [5, 7] (fun ov iv wr => ∃ (k on : Nat) (out : List Ro), k ≤ n ∧ iv = .int .i64 k ∧ Hid (out ++ (R.drop k).filter F = Q) ∧ Hid (on = out.length) ∧ on ≤ k ∧ Hid (wr.ownsRow W0.heap.size 35 10 ov on (out.flatMap enM)) ∧ Hid (RowKit.Below W0.heap.size W0 wr)) (fun _ iv _ => n - (intOf iv).toNat)
  case atStart => exact ⟨0, 0, [], by omega, rfl, Lib.hid (by rw [HQ.out]; rfl), Lib.hid rfl, by simp, Lib.hid (World.ownsRow_nil _ _ _ _), Lib.hid (Below.refl _ _)⟩
  case round =>
    obtain ⟨k, on, out, hk, rfl, hput, hol2, hol, hown, hl⟩ := hrel
    have HBW := Lib.hid (below_then HB0.out (Nat.le_refl _) hl.out)
    by_cases hlt : k < n
    · have hkr : k < R.length := by have := HN.out; omega
      obtain ⟨x, hx⟩ : ∃ x, R[k]? = some x := ⟨_, List.getElem?_eq_getElem hkr⟩
      have hxe : R[k] = x := (List.getElem?_eq_some_iff.1 hx).2
      have hxm := List.mem_of_getElem? hx
      have hxo := (HV.out.below HBW.out).over x hxm
      obtain ⟨xb, xoff, hao, hat⟩ := (HV.out.below HBW.out).at_ hx
      cases hao
      have hst := hput.out
      rw [List.drop_eq_getElem_cons hkr, hxe] at hst
      have HXO := Lib.hid hxo
      obtain ⟨xo, xc, ex, -, -⟩ := Over.form hxo
      obtain ⟨D, hD⟩ : ∃ D, D = F x := ⟨_, rfl⟩
      obtain ⟨mx, hmx⟩ : ∃ mx, mx = x.1 := ⟨_, rfl⟩
      have HOF := Lib.hid (fun v W (hv : Reads W v [mx]) (hW : RowKit.Below wr.heap.size wr W) => show Calls Tryz.prog 20 #[v] W (RetC (leftOf [mx]) W) from c_refof (HT.out W (below_then hl.out (Nat.le_refl _) hW)) hv (by simp) (fun m hm => by rw [List.mem_singleton.1 hm, hmx]; exact HSM.out x hxm))
      obtain ⟨one, hone⟩ : ∃ one, one = leftOf [mx] := ⟨_, rfl⟩
      have HG1 := Lib.hid (show Good one 1 by rw [hone]; exact leftOf_good [mx])
      rw [← hone] at HOF
      obtain ⟨cm, hcm⟩ : ∃ cm, cm = joinC y one := ⟨_, rfl⟩
      have HJOIN := Lib.hid (fun v W (hv : IsC one v W) (hW : RowKit.Below wr.heap.size wr W) => show Calls Tryz.prog 80 #[.agg #[.slice o4 n4 k4, .slice o5 n5 k5, .slice o6 n6 k6], v] W (RetC cm W) from hcm ▸ c_refjoin (HT.out W (below_then hl.out (Nat.le_refl _) hW)) (HY.out W (below_then hl.out (Nat.le_refl _) hW)) HGy.out hv HG1.out (by have := HNN.out; omega))
      obtain ⟨q, hq⟩ : ∃ q, q = conB cm y := ⟨_, rfl⟩
      have hDq : D = !q := by rw [hD, hq, hcm, hone, hmx, join_one]; exact HFx.out x
      have HGc := Lib.hid (show Good cm (ny + 1) by rw [hcm]; exact joinC_good HGy.out HG1.out)
      have HSAME := Lib.hid (fun v W (hv : IsC cm v W) (hW : RowKit.Below wr.heap.size wr W) => show Calls Tryz.prog 79 #[v, .agg #[.slice o4 n4 k4, .slice o5 n5 k5, .slice o6 n6 k6]] W (RetB q W) from c_refsame q (by rw [hq]; exact conB_iff _ _) hv HGc.out (HY.out W (below_then hl.out (Nat.le_refl _) hW)) HGy.out)
      have HONE := Lib.hid (fun W (hW : RowKit.Below wr.heap.size wr W) => show Reads W (.slice (some ⟨xb, xoff + k * 10, none⟩) 1 (cap - k)) [mx] from ⟨[x], by rw [hmx]; rfl, MRow.below (MRow.one (HV.out.below HBW.out) hx) hW⟩)
      rw [List.filter_cons, ← hD, hDq] at hst
      have HOX := Lib.hid (fun W (hW : RowKit.Below wr.heap.size wr W) => Over.below hxo hW); clear hD hDq hq hcm hone hmx hput hx hxe hxo hxm
      have HAT := Lib.hid hat
      clear hat
      obtain ⟨⟨at1, ak1, akey1, afin1, aval1, aex1, ⟨ap1, al1, aw1⟩, aov1⟩, av1⟩ := x
      simp only [] at ex
      obtain ⟨xn, hxn⟩ : ∃ k, k = aov1.length := ⟨_, rfl⟩
      rw [← hxn] at ex
      subst ex
      clear hxn
      have HST := Lib.hid hst
      clear hst
      have j0 : (0 : Int) ≤ (k : Int) := by omega
      have j1 : (k : Int) < (n : Int) := by omega
      have hcapn : n ≤ cap := HCAP.out.1
      have hcapm : cap ≤ maxLen := HCAP.out.2
      have HC2 := Lib.hid (HP2.out.below hl.out)
      go_wp2_with fail
      refine wp_region_told [] 10 [false, false, false, false, false, false, false, false, false, false, false, false, false, false, false, false, true, true, true, true, true, true, true, true, true, true, false, false, false, false, false, false, false, false, false]
        [sLit (.agg #[.slice o4 n4 k4, .slice o5 n5 k5, .slice o6 n6 k6]),
      sLit (.slice (some ⟨xb, xoff, none⟩) n cap),
      sLit (.int .i64 k),
      sLit (.int .i64 k),
      sLit (.int .i64 (k + 1)),
      sOne (fun v w => Reads w v [mx]) (fun _ _ _ h hb => h.below hb),
      sOne (IsC (one)) (fun _ _ _ h hb => h.below hb),
      sOne (IsC (cm)) (fun _ _ _ h hb => h.below hb),
      sLit (.agg #[.slice o4 n4 k4, .slice o5 n5 k5, .slice o6 n6 k6]),
      sLit (.bool q)] (by kernel_rfl) (by kernel_rfl) (by kernel_rfl) (fun F hF => ?_)
      simp only [over, overL, Nat.reduceAdd] at hF
      obtain rfl := funext hF
      clear hF
      refine ⟨⟨?_, ?_, ?_, ?_, ?_, ?_, ?_, ?_, ?_, ?_, trivial⟩, ?_⟩
      · intro V W hb hd K hK _
        clear hd
        obtain ⟨-, s0, s1, s2, -⟩ := HC2.out.below hb
        go_wp2_with fail
        refine hK _ _ ?_ ?_ ?_ ?_
        · rfl
        · exact Below.refl _ _
        · exact rfl
        · trivial
      · intro V W hb hd K hK _
        clear hd
        go_wp2_with fail
        refine hK _ _ ?_ ?_ ?_ ?_
        · rfl
        · exact Below.refl _ _
        · exact rfl
        · trivial
      · intro V W hb hd K hK _
        clear hd
        go_wp2_with fail
        refine hK _ _ ?_ ?_ ?_ ?_
        · rfl
        · exact Below.refl _ _
        · exact rfl
        · trivial
      · intro V W hb hd K hK _
        clear hd
        go_wp2_with fail
        refine hK _ _ ?_ ?_ ?_ ?_
        · rfl
        · exact Below.refl _ _
        · exact rfl
        · trivial
      · intro V W hb hd K hK _
        have h3 : (V 19) = .int .i64 k := hd 3 (by kernel_rfl)
        clear hd
        go_wp2_with fail
        refine hK _ _ ?_ ?_ ?_ ?_
        · rfl
        · exact Below.refl _ _
        · exact rfl
        · trivial
      · intro V W hb hd K hK _
        have h1 : (V 17) = .slice (some ⟨xb, xoff, none⟩) n cap := hd 1 (by kernel_rfl)
        have h2 : (V 18) = .int .i64 k := hd 2 (by kernel_rfl)
        have h4 : (V 20) = .int .i64 (k + 1) := hd 4 (by kernel_rfl)
        clear hd
        go_wp2_with fail
        refine hK _ _ ?_ ?_ ?_ ?_
        · rfl
        · exact Below.refl _ _
        · exact HONE.out W hb
        · trivial
      · intro V W hb hd K hK _
        have h5 : Reads W (V 21) [mx] := hd 5 (by kernel_rfl)
        clear hd
        go_wp2_with fail
        refine (HOF.out _ W h5 hb).mono ?_
        rintro e w1 ⟨v1, rfl, hv1, hb1⟩
        go_wp2_with fail
        refine hK _ _ ?_ ?_ ?_ ?_
        · rfl
        · exact hb1
        · exact hv1
        · trivial
      · intro V W hb hd K hK _
        have h0 : (V 16) = .agg #[.slice o4 n4 k4, .slice o5 n5 k5, .slice o6 n6 k6] := hd 0 (by kernel_rfl)
        have h6 : IsC (one) (V 22) W := hd 6 (by kernel_rfl)
        clear hd
        go_wp2_with fail
        refine (HJOIN.out _ W h6 hb).mono ?_
        rintro e w1 ⟨v1, rfl, hv1, hb1⟩
        go_wp2_with fail
        refine hK _ _ ?_ ?_ ?_ ?_
        · rfl
        · exact hb1
        · exact hv1
        · trivial
      · intro V W hb hd K hK _
        clear hd
        obtain ⟨-, s0, s1, s2, -⟩ := HC2.out.below hb
        go_wp2_with fail
        refine hK _ _ ?_ ?_ ?_ ?_
        · rfl
        · exact Below.refl _ _
        · exact rfl
        · trivial
      · intro V W hb hd K hK _
        have h7 : IsC (cm) (V 23) W := hd 7 (by kernel_rfl)
        have h8 : (V 24) = .agg #[.slice o4 n4 k4, .slice o5 n5 k5, .slice o6 n6 k6] := hd 8 (by kernel_rfl)
        clear hd
        go_wp2_with fail
        refine (HSAME.out _ W h7 hb).mono ?_
        rintro e w1 ⟨rfl, hb1⟩
        go_wp2_with fail
        refine hK _ _ ?_ ?_ ?_ ?_
        · rfl
        · exact hb1
        · exact rfl
        · trivial
      · intro V W hb hd hap
        have h9 : (V 25) = .bool q := hd 9 (by decide)
        clear hd hap
        simp only [List.drop_succ_cons, List.drop_zero]
        have HZ := Lib.hid hb
        have HF := Lib.hid (below_then hl.out (Nat.le_refl _) HZ.out)
        have HOi := Lib.hid (row_below hown.out HZ.out)
        have HX1 := Lib.hid (HOX.out W HZ.out)
        have HAT2 := Lib.hid (HAT.out.below HZ.out)
        obtain ⟨hnl, m0, m1, m2, m3, m4, m5, m6, m7, m8, m9⟩ := HAT2.out
        simp only [] at m0 m1 m2 m3 m4 m5 m6 m7 m8 m9
        have hsz := HF.out.size
        clear hb
        cases q
        · have HS2 := Lib.hid (show (out ++ [(⟨⟨at1, ak1, akey1, afin1, aval1, aex1, ⟨ap1, al1, aw1⟩, aov1⟩, .slice xo xn xc⟩ : Ro)]) ++ (R.drop (k + 1)).filter F = Q by have h : out ++ ((⟨⟨at1, ak1, akey1, afin1, aval1, aex1, ⟨ap1, al1, aw1⟩, aov1⟩, .slice xo xn xc⟩ : Ro) :: (R.drop (k + 1)).filter F) = Q := HST.out; rw [← h]; simp)
          go_wp2_with (at_builtin; refine wpList_append_rows rfl (.tmp 27) (.tmp 32) rfl W0.heap.size u5 on _ rfl (HOi.out.alloc _) (some ⟨W.heap.size, 0, none⟩) 1 1 [(⟨⟨at1, ak1, akey1, afin1, aval1, aex1, ⟨ap1, al1, aw1⟩, aov1⟩, .slice xo xn xc⟩ : Ro)] rfl (one_row HX1.out) (by omega) (by simp; omega) ?_)
          intro v4 w4 hown4 hgr4
          have HO4 := Lib.hid (show w4.ownsRow W0.heap.size 35 10 v4 (on + 1) ((out ++ [(⟨⟨at1, ak1, akey1, afin1, aval1, aex1, ⟨ap1, al1, aw1⟩, aov1⟩, .slice xo xn xc⟩ : Ro)]).flatMap enM) by rw [List.flatMap_append]; exact hown4)
          have HB4 := Lib.hid ((HF.out.alloc hsz _).grown hgr4 (by simp; omega) (fun k hk => (HOi.out.lt k hk).1))
          clear hown4 hgr4 m0 m1 m2 m3 m4 m5 m6 m7 m8 m9 h9
          go_wp2_with fail
          go_roundw
          case rel => exact ⟨k + 1, on + 1, _, by omega, by go_num, HS2, Lib.hid (by have := hol2.out; simp; omega), by omega, HO4, HB4⟩
          case measure => simp [intOf]; omega
        · have HS2 := Lib.hid (show out ++ (R.drop (k + 1)).filter F = Q from HST.out)
          go_wp2_with fail
          go_roundw
          case rel => exact ⟨k + 1, on, out, by omega, by go_num, HS2, hol2, by omega, HOi, HF⟩
          case measure => simp [intOf]; omega
    · obtain rfl : k = n := by omega
      have HQ2 := Lib.hid (show out = Q by have h := hput.out; rw [List.drop_of_length_le (by have := HN.out; omega)] at h; simpa using h)
      have HSUB := Lib.hid (show ∀ y ∈ Q, y ∈ R from fun y hy => by rw [HQ.out] at hy; exact (List.mem_filter.1 hy).1)
      have HMR := Lib.hid (show MRow wr u5 Q from ⟨by rw [← HQ2.out]; exact Lst.owned enM_len (by decide) hol2.out hown.out, fun y hy => (HV.out.over y (HSUB.out y hy)).below HBW.out⟩)
      go_wp2_with fail
      go_ret
      exact ⟨_, rfl, ⟨Q, HLQ.out, HMR.out⟩, below_then HBase.out (Nat.le_refl _) hl.out⟩
end Go.Proofs.YtipoeigehabbmaaGreatDoor.Mut
