/- The reference's side of layer 9 (view): Right, Seen, hidden, hides, row, See, Same. PRINTED by wip/genrefview.py. -/
import Derived.Test.YtmfhmcegmeinnaaGreatDoorViewSee
import Derived.Test.YtmfhmcegmeinnaaGreatDoorSweep
import Derived.Test.YtmfhmcegmeinnaaGreatDoorRefState
set_option linter.unusedSimpArgs false
set_option linter.unusedVariables false
namespace Go.Proofs.YtmfhmcegmeinnaaGreatDoor.Mut
open Go.RowKit Go.Sort Go.Proofs.YtmfhmcegmeinnaaGreatDoor.Ord
set_option linter.unusedSectionVars false
variable [Inhabited Lim]

set_option maxHeartbeats 4000000 in
set_option maxRecDepth 100000 in
theorem right09_any (v : Value) (R : List Ro) (w : World) (hT : Tabs w) (hv : MRow w v R) (hs : ∀ x ∈ R, Small x.1) (hn : R.length ≤ 10000) :
    Calls Tryz.prog 11 #[v] w (RowP w (setRo R)) := by
  obtain ⟨ao, cap, rfl, -, -⟩ := hv.form
  obtain ⟨n, hN⟩ : ∃ n, n = R.length := ⟨_, rfl⟩
  rw [← hN] at hv hn ⊢
  obtain ⟨Q, hQ⟩ : ∃ Q, Q = setRo R := ⟨_, rfl⟩
  rw [← hQ]
  have HQ := Lib.hid hQ
  have HN := Lib.hid hN
  have HV := Lib.hid hv
  have HS := Lib.hid hs
  have HT := Lib.hid hT
  clear hN hv hs hT hQ
  go_enter Tryz.func11, Tryz.ntmps11
  go_wp2_with fail
  go_loopw [3, 4] (fun ov iv wr => ∃ (k : Nat) (acc : List Ro), k ≤ n ∧ iv = .int .i64 k ∧ Hid (acc = setRo (R.take k) ∧ MRow wr ov acc) ∧ Hid (RowKit.Below w.heap.size w wr)) (fun _ iv _ => n - (intOf iv).toNat)
  case atStart => exact ⟨0, [], by omega, rfl, Lib.hid ⟨rfl, MRow.nil w⟩, Lib.hid (Below.refl _ _)⟩
  case round =>
    obtain ⟨k, acc, hk, rfl, hacc, hb⟩ := hrel
    by_cases hlt : k < n
    · have hkr : k < R.length := by have := HN.out; omega
      obtain ⟨x, hx⟩ : ∃ x, R[k]? = some x := ⟨_, List.getElem?_eq_getElem hkr⟩
      have hxm := List.mem_of_getElem? hx
      have hxo := (HV.out.below hb.out).over x hxm
      obtain ⟨xb, xoff, hao, hat⟩ := (HV.out.below hb.out).at_ hx
      cases hao
      have htk : R.take (k + 1) = R.take k ++ [x] := by rw [List.take_add_one, hx]; rfl
      have hsn := setRo_snoc (R.take k) x
      rw [← htk, ← hacc.out.1] at hsn
      have hxs := HS.out x hxm
      have hsub : ∀ y ∈ acc, y.1.over.length ≤ 1000000 := fun y hy => by
        rw [hacc.out.1] at hy
        exact (HS.out y (List.mem_of_mem_take (setRo_mem _ y hy))).over
      have hal : acc.length ≤ 100000 := by
        rw [hacc.out.1]
        have h1 := (setRo_spec (R.take k)).2.2
        have h2 := List.length_take_le k R
        omega
      have HRt := Lib.hid (refright_any x _ (HT.out.below hb.out) hxo hxs.over hxs.key hxs.fin hxs.val)
      obtain ⟨oo, oc, rfl, -, -⟩ := hacc.out.2.form
      have HIn := Lib.hid (fun (W : World) (hW : RowKit.Below wr.heap.size wr W) => refins_any _ acc x W (hacc.out.2.below hW) (hxo.below hW) hxs.over hsub hal)
      unfold setStep at hsn
      obtain ⟨q, hq⟩ : ∃ q, q = rightF x.1 := ⟨_, rfl⟩
      rw [← hq] at HRt hsn
      have HSN := Lib.hid hsn
      have HAT := Lib.hid hat
      obtain ⟨xo, xc, ex, -, -⟩ := Over.form hxo
      clear hsn hq hx hxm hxo htk hxs hsub hat
      obtain ⟨⟨at1, ak1, akey1, afin1, aval1, aex1, ⟨ap1, al1, aw1⟩, aov1⟩, av1⟩ := x
      simp only [] at ex
      obtain ⟨xn, hxn⟩ : ∃ k, k = aov1.length := ⟨_, rfl⟩
      rw [← hxn] at ex
      subst ex
      clear hxn
      unfold vM at HRt HIn
      simp only [] at HRt HIn
      obtain ⟨hbl, a0, a1, a2, a3, a4, a5, a6, a7, a8, a9⟩ := HAT.out
      simp only [] at a0 a1 a2 a3 a4 a5 a6 a7 a8 a9
      go_wp2_with fail
      refine HRt.out.mono ?_
      rintro e w1 ⟨rfl, hb1⟩
      have HB1 := Lib.hid (below_then hb.out (Nat.le_refl _) hb1)
      have HB01 := Lib.hid hb1
      have HAT1 := Lib.hid (HAT.out.below hb1)
      clear hb1 a0 a1 a2 a3 a4 a5 a6 a7 a8 a9
      obtain ⟨hbl1, a0, a1, a2, a3, a4, a5, a6, a7, a8, a9⟩ := HAT1.out
      simp only [] at a0 a1 a2 a3 a4 a5 a6 a7 a8 a9
      cases q
      · go_wp2_with fail
        go_roundw
        case rel => exact ⟨k + 1, acc, by omega, by go_num, Lib.hid ⟨HSN.out.symm, hacc.out.2.below HB01.out⟩, HB1⟩
        case measure => simp [intOf]; omega
      · go_wp2_with fail
        refine (HIn.out _ HB01.out).mono ?_
        rintro e w2 ⟨v2, rfl, hr2, hb2⟩
        have HR2 := Lib.hid hr2
        have HB2 := Lib.hid (below_then HB1.out (Nat.le_refl _) hb2)
        clear hr2 hb2 a0 a1 a2 a3 a4 a5 a6 a7 a8 a9
        go_wp2_with fail
        go_roundw
        case rel => exact ⟨k + 1, _, by omega, by go_num, Lib.hid ⟨HSN.out.symm, HR2.out⟩, HB2⟩
        case measure => simp [intOf]; omega
    · obtain rfl : k = n := by omega
      have HR := Lib.hid (show MRow wr u3 Q by
        have h := hacc.out.1
        rw [List.take_of_length_le (by have := HN.out; omega), ← HQ.out] at h
        rw [← h]; exact hacc.out.2)
      go_wp2_with fail
      go_ret
      exact ⟨_, rfl, HR.out, hb.out⟩


set_option maxHeartbeats 1000000 in
set_option maxRecDepth 100000 in
theorem seen09_any (x : Ro) (t : Int) (w : World) (hx : ∃ ao n cap, x.2 = .slice ao n cap) : Calls Tryz.prog 52 #[vM x, .int .i64 t] w (RetB (seenB x.1 t) w) := by
  obtain ⟨xo, xn, xc, ex⟩ := hx
  obtain ⟨⟨at1, ak1, akey1, afin1, aval1, aex1, ⟨ap1, al1, aw1⟩, aov1⟩, av1⟩ := x
  simp only [] at ex
  subst ex
  unfold vM
  simp only []
  have HB := Lib.hid ((Below.refl _ w).alloc (Nat.le_refl _) (.cells #[.int .i64 at1, .int .i64 ak1, .string akey1, .string afin1, .string aval1, .int .i64 aex1, .int .i64 ap1, .int .i64 al1, .int .i64 aw1, .slice xo xn xc] 51))
  obtain ⟨Q, hQ⟩ : ∃ Q, Q = seenB ⟨at1, ak1, akey1, afin1, aval1, aex1, ⟨ap1, al1, aw1⟩, aov1⟩ t := ⟨_, rfl⟩
  rw [← hQ]
  have HQ := Lib.hid hQ
  clear hQ
  go_enter Tryz.func52, Tryz.ntmps52
  by_cases h1 : ak1 = 1
  · have hk := eq_flag h1
    by_cases h2 : aex1 = 0
    · have hk2 := eq_flag h2
      have HR := Lib.hid (show true = Q by rw [HQ.out]; simp [seenB, h1, h2])
      subst h1
      subst h2
      go_wp2_with fail
      go_ret
      exact ⟨ret_bool HR.out, HB.out⟩
    · have hk2 := ne_flag h2
      by_cases h3 : t < aex1
      · have hd3 : decide (aex1 > t) = true := decide_eq_true h3
        have HR := Lib.hid (show true = Q by rw [HQ.out]; simp [seenB, h1, h3])
        subst h1
        go_wp2_with fail
        go_ret
        exact ⟨ret_bool HR.out, HB.out⟩
      · have hd3 : decide (aex1 > t) = false := decide_eq_false h3
        have HR := Lib.hid (show false = Q by rw [HQ.out]; simp [seenB, h2, h3])
        subst h1
        go_wp2_with fail
        go_ret
        exact ⟨ret_bool HR.out, HB.out⟩
  · have hk := ne_flag h1
    have HR := Lib.hid (show false = Q by rw [HQ.out]; simp [seenB, h1])
    go_wp2_with fail
    go_ret
    exact ⟨ret_bool HR.out, HB.out⟩

set_option maxHeartbeats 4000000 in
set_option maxRecDepth 100000 in
theorem hidden09_any (x y : Ro) (w : World) (hx : Over w x) (hy : Over w y) (h1 : x.1.over.length ≤ 1000000) (h2 : y.1.over.length ≤ 1000000) : Calls Tryz.prog 102 #[vM x, vM y] w (RetB (hiddenB x.1 y.1) w) := by
  have HIN := Lib.hid (fun W (h : RowKit.Below w.heap.size w W) => refstin_any y.2 y.1.over x.1.at_ W (Lst.below hy.lst h) h2)
  have HCO := Lib.hid (fun W (h : RowKit.Below w.heap.size w W) => refcovers_any y x.1.key W (by obtain ⟨a, b, e, -, -⟩ := Over.form hy; exact ⟨_, _, _, e⟩))
  have HLS := Lib.hid (fun W (h : RowKit.Below w.heap.size w W) => refless_any x.1.at_ y.1.at_ W)
  have HCM := Lib.hid (fun W (h : RowKit.Below w.heap.size w W) => refcompare_any x y W (hx.below h) (hy.below h) h1 h2)
  obtain ⟨xo, xc, ex, -, -⟩ := Over.form hx
  obtain ⟨yo, yc, ey, -, -⟩ := Over.form hy
  obtain ⟨Q, hQ⟩ : ∃ Q, Q = hiddenB x.1 y.1 := ⟨_, rfl⟩
  rw [← hQ]
  unfold hiddenB hitsB at hQ
  obtain ⟨U, hU⟩ : ∃ U, U = hasS y.1.over x.1.at_ := ⟨_, rfl⟩
  obtain ⟨E, hE⟩ : ∃ E, E = coversB y.1 x.1.key := ⟨_, rfl⟩
  obtain ⟨S, hS⟩ : ∃ S, S = decide (stC x.1.at_ y.1.at_ < 0) := ⟨_, rfl⟩
  obtain ⟨M, hM⟩ : ∃ M, M = muC x.1 y.1 := ⟨_, rfl⟩
  rw [← hU] at HIN hQ
  rw [← hE] at HCO hQ
  rw [← hS] at HLS hQ
  rw [← hM] at HCM hQ
  clear hU hE hS hM hx hy h1 h2
  obtain ⟨⟨at1, ak1, akey1, afin1, aval1, aex1, ⟨ap1, al1, aw1⟩, aov1⟩, av1⟩ := x
  obtain ⟨⟨at2, ak2, akey2, afin2, aval2, aex2, ⟨ap2, al2, aw2⟩, aov2⟩, av2⟩ := y
  simp only [] at ex ey hQ
  obtain ⟨xn, hxn⟩ : ∃ k, k = aov1.length := ⟨_, rfl⟩
  rw [← hxn] at ex
  obtain ⟨yn, hyn⟩ : ∃ k, k = aov2.length := ⟨_, rfl⟩
  rw [← hyn] at ey
  subst ex ey
  clear hxn hyn
  have HQ := Lib.hid hQ
  clear hQ
  unfold vM vS at *
  unfold RetB at HIN
  simp only [] at HIN HCO HLS HCM ⊢
  have HB := Lib.hid (((Below.refl _ w).alloc (Nat.le_refl _) (.cells #[.int .i64 at1, .int .i64 ak1, .string akey1, .string afin1, .string aval1, .int .i64 aex1, .int .i64 ap1, .int .i64 al1, .int .i64 aw1, .slice xo xn xc] 51)).alloc (by simp) (.cells #[.int .i64 at2, .int .i64 ak2, .string akey2, .string afin2, .string aval2, .int .i64 aex2, .int .i64 ap2, .int .i64 al2, .int .i64 aw2, .slice yo yn yc] 51))
  go_enter Tryz.func102, Tryz.ntmps102
  go_upto_region 1 with fail
  obtain ⟨W0, hW0⟩ : ∃ W0, W0 = (w.alloc (.cells #[.int .i64 at1, .int .i64 ak1, .string akey1, .string afin1, .string aval1, .int .i64 aex1, .int .i64 ap1, .int .i64 al1, .int .i64 aw1, .slice xo xn xc] 51)).alloc (.cells #[.int .i64 at2, .int .i64 ak2, .string akey2, .string afin2, .string aval2, .int .i64 aex2, .int .i64 ap2, .int .i64 al2, .int .i64 aw2, .slice yo yn yc] 51) := ⟨_, rfl⟩
  rw [← hW0] at HB ⊢
  have hA : At W0 w.heap.size 0 (⟨at1, ak1, akey1, afin1, aval1, aex1, ⟨ap1, al1, aw1⟩, aov1⟩, .slice xo xn xc) := by rw [hW0]; exact (At.new w 51 (⟨at1, ak1, akey1, afin1, aval1, aex1, ⟨ap1, al1, aw1⟩, aov1⟩, .slice xo xn xc)).below ((Below.refl _ _).alloc (Nat.le_refl _) _)
  have hY : At W0 (w.heap.size + 1) 0 (⟨at2, ak2, akey2, afin2, aval2, aex2, ⟨ap2, al2, aw2⟩, aov2⟩, .slice yo yn yc) := by
    rw [hW0]
    have := At.new (w.alloc (.cells #[.int .i64 at1, .int .i64 ak1, .string akey1, .string afin1, .string aval1, .int .i64 aex1, .int .i64 ap1, .int .i64 al1, .int .i64 aw1, .slice xo xn xc] 51)) 51 (⟨at2, ak2, akey2, afin2, aval2, aex2, ⟨ap2, al2, aw2⟩, aov2⟩, .slice yo yn yc)
    rwa [World.size_alloc] at this
  have HA := Lib.hid hA
  have HY := Lib.hid hY
  clear hW0 hA hY
  obtain ⟨hl1, a0, a1, a2, a3, a4, a5, a6, a7, a8, a9⟩ := HA.out
  obtain ⟨hl2, b0, b1, b2, b3, b4, b5, b6, b7, b8, b9⟩ := HY.out
  simp only [Nat.zero_add] at a0 a1 a2 a3 a4 a5 a6 a7 a8 a9 b0 b1 b2 b3 b4 b5 b6 b7 b8 b9
  by_cases ht : at1 = at2
  rotate_left
  · have hk := ne_flag ht
    have HR := Lib.hid (show false = Q by rw [HQ.out]; simp [ht])
    clear ht
    go_wp2_with fail
    go_ret
    exact ⟨ret_bool HR.out, HB.out⟩
  have hk := eq_flag ht
  have HTE := Lib.hid ht
  clear ht
  by_cases h2 : at1 = 2
  · have hk2 := eq_flag h2
    have H2E := Lib.hid h2
    clear h2
    obtain ⟨K, hK⟩ : ∃ K, (akey2.toList == akey1.toList) = K := ⟨_, rfl⟩
    have HR := Lib.hid (show (K && U) = Q by rw [HQ.out, hK]; simp [HTE.out.symm, H2E.out])
    cases K
    · go_wp2_with fail
      go_ret
      exact ⟨ret_bool HR.out, HB.out⟩
    · go_wp2_with fail
      refine (HIN.out _ HB.out).mono ?_
      rintro e w1 ⟨rfl, hb⟩
      have HB1 := Lib.hid (below_then HB.out (Nat.le_refl _) hb)
      clear hb
      go_wp2_with fail
      go_ret
      exact ⟨ret_bool HR.out, HB1.out⟩
  have hk2 := ne_flag h2
  have H2E := Lib.hid h2
  clear h2
  by_cases h3 : ak2 = 3
  · have hk3 := eq_flag h3
    have H3E := Lib.hid h3
    clear h3
    have HR := Lib.hid (show (E && S) = Q by rw [HQ.out]; simp [HTE.out.symm, H2E.out, H3E.out])
    go_wp2_with fail
    refine (HCO.out _ HB.out).mono ?_
    rintro e w1 ⟨rfl, hb⟩
    have HB1 := Lib.hid (below_then HB.out (Nat.le_refl _) hb)
    have HA1 := Lib.hid (HA.out.below hb)
    have HY1 := Lib.hid (HY.out.below hb)
    clear hb a0 a1 a2 a3 a4 a5 a6 a7 a8 a9 b0 b1 b2 b3 b4 b5 b6 b7 b8 b9
    obtain ⟨-, a0, a1, a2, a3, a4, a5, a6, a7, a8, a9⟩ := HA1.out
    obtain ⟨-, b0, b1, b2, b3, b4, b5, b6, b7, b8, b9⟩ := HY1.out
    simp only [Nat.zero_add] at a0 a1 a2 a3 a4 a5 a6 a7 a8 a9 b0 b1 b2 b3 b4 b5 b6 b7 b8 b9
    cases E
    · go_wp2_with fail
      go_ret
      exact ⟨ret_bool HR.out, HB1.out⟩
    · go_wp2_with fail
      refine (HLS.out _ HB1.out).mono ?_
      rintro e w2 ⟨rfl, hb⟩
      have HB2 := Lib.hid (below_then HB1.out (Nat.le_refl _) hb)
      clear hb
      go_wp2_with fail
      go_ret
      exact ⟨ret_bool HR.out, HB2.out⟩
  have hk3 := ne_flag h3
  have H3E := Lib.hid h3
  clear h3
  obtain ⟨K, hK⟩ : ∃ K, (akey2.toList == akey1.toList) = K := ⟨_, rfl⟩
  have HR := Lib.hid (show (K && decide (M < 0)) = Q by rw [HQ.out, hK]; simp [HTE.out.symm, H2E.out, H3E.out])
  cases K
  · go_wp2_with fail
    go_ret
    exact ⟨ret_bool HR.out, HB.out⟩
  · go_wp2_with fail
    refine (HCM.out _ HB.out).mono ?_
    rintro e w1 ⟨rfl, hb⟩
    have HB1 := Lib.hid (below_then HB.out (Nat.le_refl _) hb)
    clear hb
    go_wp2_with fail
    go_ret
    exact ⟨ret_bool HR.out, HB1.out⟩

set_option maxHeartbeats 4000000 in
set_option maxRecDepth 100000 in
theorem hides09_any (x : Ro) (v : Value) (R : List Ro) (w : World) (hx : Over w x) (hv : MRow w v R) (hxl : x.1.over.length ≤ 1000000) (hs : ∀ y ∈ R, y.1.over.length ≤ 1000000) (hn : R.length ≤ 1000000) :
    Calls Tryz.prog 53 #[vM x, v] w (RetB ((R.map (·.1)).any (hiddenB x.1)) w) := by
  obtain ⟨ao, cap, rfl, -, -⟩ := hv.form
  obtain ⟨n, hN⟩ : ∃ n, n = R.length := ⟨_, rfl⟩
  rw [← hN] at hv hn ⊢
  obtain ⟨Q, hQ⟩ : ∃ Q, Q = (R.map (·.1)).any (hiddenB x.1) := ⟨_, rfl⟩
  rw [← hQ]
  have HH := Lib.hid (fun (y : Ro) (hy : y ∈ R) W (h : RowKit.Below w.heap.size w W) => hidden09_any x y W (hx.below h) ((hv.over y hy).below h) hxl (hs y hy))
  have HV := Lib.hid hv
  have HN := Lib.hid hN
  obtain ⟨F, hF⟩ : ∃ F : Mu → Bool, F = hiddenB x.1 := ⟨_, rfl⟩
  rw [← hF] at hQ
  have HQ := Lib.hid hQ
  have HFF := Lib.hid hF
  obtain ⟨W0, hW0⟩ : ∃ W0, W0 = w.alloc (.cells (enM x).toArray 51) := ⟨_, rfl⟩
  have HA := Lib.hid (show At W0 w.heap.size 0 x by rw [hW0]; exact At.new w 51 x)
  have HB0 := Lib.hid (show RowKit.Below w.heap.size w W0 by rw [hW0]; exact (Below.refl _ _).alloc (Nat.le_refl _) _)
  obtain ⟨xo, xc, ex, -, -⟩ := Over.form hx
  clear hv hN hQ hF hx hs hxl
  obtain ⟨⟨at1, ak1, akey1, afin1, aval1, aex1, ⟨ap1, al1, aw1⟩, aov1⟩, av1⟩ := x
  simp only [] at ex
  obtain ⟨xn, hxn⟩ : ∃ k, k = aov1.length := ⟨_, rfl⟩
  rw [← hxn] at ex
  subst ex
  clear hxn
  unfold vM at HH
  unfold vM
  unfold enM at hW0
  unfold RetB at HH
  simp only [] at HH hW0 ⊢
  have HW0 := Lib.hid hW0
  clear hW0
  go_enter Tryz.func53, Tryz.ntmps53
  go_upto_region 1 with fail
  rw [← HW0.out]
  clear HW0
  go_wp2_with fail
  go_loopw [5] (fun iv wr => ∃ k : Nat, k ≤ n ∧ iv = .int .i64 k ∧ Hid (((R.drop k).map (·.1)).any F = Q) ∧ Hid (RowKit.Below W0.heap.size W0 wr)) (fun iv _ => n - (intOf iv).toNat)
  case atStart => exact ⟨0, by omega, rfl, Lib.hid (by rw [HQ.out]; rfl), Lib.hid (Below.refl _ _)⟩
  case round =>
    obtain ⟨k, hk, rfl, hi, hl⟩ := hrel
    have HBW := Lib.hid (below_then HB0.out (Nat.le_refl _) hl.out)
    by_cases hlt : k < n
    · have hkr : k < R.length := by have := HN.out; omega
      obtain ⟨y, hy⟩ : ∃ x, R[k]? = some x := ⟨_, List.getElem?_eq_getElem hkr⟩
      have hye : R[k] = y := (List.getElem?_eq_some_iff.1 hy).2
      have hym := List.mem_of_getElem? hy
      obtain ⟨xb, xoff, hao, hat⟩ := (HV.out.below HBW.out).at_ hy
      cases hao
      have hyo := (HV.out.below HBW.out).over y hym
      obtain ⟨D, hD⟩ : ∃ D, D = F y.1 := ⟨_, rfl⟩
      have hst : (D || ((R.drop (k + 1)).map (·.1)).any F) = Q := by rw [← hi.out, List.drop_eq_getElem_cons hkr, hye, List.map_cons, List.any_cons, hD]
      have HC := Lib.hid (fun W (h : RowKit.Below wr.heap.size wr W) => HH.out y hym W (below_then HBW.out (Nat.le_refl _) h))
      rw [← HFF.out, ← hD] at HC
      obtain ⟨yo, yc, ey, -, -⟩ := Over.form hyo
      have HST := Lib.hid hst
      have HAX := Lib.hid (HA.out.below hl.out)
      clear hst hD hi hy hye hym hyo
      obtain ⟨⟨at2, ak2, akey2, afin2, aval2, aex2, ⟨ap2, al2, aw2⟩, aov2⟩, av2⟩ := y
      simp only [] at ey
      obtain ⟨yn, hyn⟩ : ∃ k, k = aov2.length := ⟨_, rfl⟩
      rw [← hyn] at ey
      subst ey
      clear hyn
      simp only [] at HC
      obtain ⟨hl1, a0, a1, a2, a3, a4, a5, a6, a7, a8, a9⟩ := HAX.out
      obtain ⟨hl2, b0, b1, b2, b3, b4, b5, b6, b7, b8, b9⟩ := hat
      simp only [Nat.zero_add] at a0 a1 a2 a3 a4 a5 a6 a7 a8 a9 b0 b1 b2 b3 b4 b5 b6 b7 b8 b9
      have j0 : (0 : Int) ≤ (k : Int) := by omega
      have j1 : (k : Int) < (n : Int) := by omega
      have HC2 := Lib.hid (HC.out wr (Below.refl _ _))
      go_wp2_with fail
      refine wp_region_calm (by kernel_rfl) (by kernel_rfl) ?_
      repeat (go_big_quiet_step (first | (go_at_call 102; exact calm (HC.out _ (BW.below _)))))
      refine wpQuiet_nil ?_
      rintro _ ⟨z, rfl⟩
      obtain ⟨W1, hW1⟩ : ∃ W1, W1 = z.at := ⟨_, rfl⟩
      have hz := z.below
      rw [← hW1] at hz ⊢
      have HZ := Lib.hid (below_then hl.out (Nat.le_refl _) hz)
      clear hW1 z hz a0 a1 a2 a3 a4 a5 a6 a7 a8 a9 b0 b1 b2 b3 b4 b5 b6 b7 b8 b9
      cases D
      · have HS2 := Lib.hid (show ((R.drop (k + 1)).map (·.1)).any F = Q from HST.out)
        go_wp2_with fail
        go_roundw
        case rel => exact ⟨k + 1, by omega, by go_num, HS2, HZ⟩
        case measure => simp [intOf]; omega
      · have HS2 := Lib.hid (show true = Q from HST.out)
        go_wp2_with fail
        go_ret
        exact ⟨ret_bool HS2.out, below_then HB0.out (Nat.le_refl _) HZ.out⟩
    · obtain rfl : k = n := by omega
      have HQ2 := Lib.hid (show false = Q by have h := hi.out; rw [List.drop_of_length_le (by have := HN.out; omega)] at h; exact h)
      go_wp2_with fail
      go_ret
      exact ⟨ret_bool HQ2.out, HBW.out⟩
end Go.Proofs.YtmfhmcegmeinnaaGreatDoor.Mut
