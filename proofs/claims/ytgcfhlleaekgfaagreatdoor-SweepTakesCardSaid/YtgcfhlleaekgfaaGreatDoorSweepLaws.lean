/- The walks of the laws SweepExpired, SweepTakes (layer 10). PRINTED by wip/gensweeplaws.py. -/
import Derived.Test.YtgcfhlleaekgfaaGreatDoorSweep
set_option linter.unusedSimpArgs false
set_option linter.unusedVariables false
namespace Go.Proofs.YtgcfhlleaekgfaaGreatDoor.Mut
open Go.RowKit Go.Sort Go.Proofs.YtgcfhlleaekgfaaGreatDoor.Ord Go.Proofs.YtgcfhlleaekgfaaGreatDoor.RegInv

theorem c_rsame {w : World} {v v' : Value} {l : List Mu} (h : Reads w v l) (h' : Reads w v' l) (hs : ∀ m ∈ l, Small m) : Calls Tryz.prog 21 #[v, v'] w (RetB true w) := by
  obtain ⟨R, e, h⟩ := h
  obtain ⟨R', e', h'⟩ := h'
  have := refsame_any v v' R R' w h h' (fun x hx => hs _ (e ▸ List.mem_map.2 ⟨x, hx, rfl⟩)) (fun x hx => hs _ (e' ▸ List.mem_map.2 ⟨x, hx, rfl⟩))
  rw [(eqF_iff _ _).2 (e.trans e'.symm)] at this
  exact this
/-- A literal row of mutations that supersede nothing. -/
theorem lit_rows (R : List Ro) (w : World) (t : TypeId) (hR : ∀ x ∈ R, x.2 = .slice none 0 0 ∧ x.1.over = []) (hn : R.length ≤ maxLen) : MRow (w.alloc (.cells ⟨R.flatMap enM⟩ t)) (.slice (some ⟨w.heap.size, 0, none⟩) R.length R.length) R := by
  refine ⟨⟨_, R.length, rfl, Nat.le_refl _, hn, Or.inr ⟨_, _, rfl, by simp, fun i x hi j hj => ?_⟩⟩, fun x hx => ?_⟩
  · rw [cells_at (heap_alloc_new w _), Nat.zero_add]
    exact flatMap_get enM_len _ i x hi j hj
  · obtain ⟨h1, h2⟩ := hR x hx
    unfold Over
    rw [h1, h2]
    exact Lst.nil _
def mP : Mu := ⟨1, 1, kB, ⟨#[]⟩, vB, 0, ⟨1, 0, 0⟩, []⟩
def mD : Mu := ⟨1, 2, kB, ⟨#[]⟩, ⟨#[]⟩, 0, ⟨2, 0, 0⟩, []⟩
theorem rightP : rightF mP = true := by kernel_rfl
theorem rightD : rightF mD = true := by kernel_rfl
theorem left10 : leftOf [mP, mD] = ⟨[mD], [], []⟩ := by kernel_rfl
theorem all10 : allF ⟨[mD], [], []⟩ = [mD] := List.mergeSort_singleton _
theorem dead10 : deadF ⟨[mD], [], []⟩ ⟨3, 0, 0⟩ mD = true := by kernel_rfl
theorem good10 : Good ⟨[mD], [], []⟩ 2 := by rw [← left10]; exact leftOf_good _
theorem alone_all : allF ⟨[], [], []⟩ = [] := List.mergeSort_nil

set_option maxHeartbeats 4000000 in
set_option maxRecDepth 100000 in
theorem alive10_any (w : World) (hT : Tabs w) : Calls Tryz.prog 32 #[] w (RetB true w) := by
  have HT := Lib.hid hT
  clear hT
  go_enter Tryz.func32, Tryz.ntmps32
  go_wp2_with fail
  have hb0 := (Below.refl _ w).alloc (Nat.le_refl _) (.cells ⟨[((mP, .slice none 0 0) : Ro), (mD, .slice none 0 0)].flatMap enM⟩ 29)
  have hrow : Reads _ _ [mP, mD] := ⟨_, rfl, lit_rows [((mP, .slice none 0 0) : Ro), (mD, .slice none 0 0)] w 29 (fun x hx => by
    simp only [List.mem_cons, List.not_mem_nil, or_false] at hx
    rcases hx with rfl | rfl <;> exact ⟨rfl, rfl⟩) (by decide)⟩
  have hof := c_of (HT.out.below hb0) hrow (by decide) (fun m hm => by
    simp only [List.mem_cons, List.not_mem_nil, or_false] at hm
    rcases hm with rfl | rfl
    · exact small_right rightP
    · exact small_right rightD)
  rw [left10] at hof
  refine hof.mono ?_
  rintro e w1 ⟨vv, rfl, hc, hb1⟩
  have HB1 := Lib.hid (below_then hb0 (Nat.le_refl _) hb1)
  obtain ⟨p1, q1, r1, p2, q2, r2, p3, q3, r3, rfl, hl⟩ := hc.form
  have HC := Lib.hid hl
  clear hc hl hof hrow hb0 hb1
  go_upto_region 2 with fail
  obtain ⟨W1, hW⟩ : ∃ W, W = w1.alloc (.cells #[.slice p1 q1 r1, .slice p2 q2 r2, .slice p3 q3 r3] 32) := ⟨_, rfl⟩
  have hb2 : RowKit.Below w1.heap.size w1 W1 := by rw [hW]; exact (Below.refl _ _).alloc (Nat.le_refl _) _
  have hp : C3 W1 w1.heap.size (.slice p1 q1 r1) (.slice p2 q2 r2) (.slice p3 q3 r3) := by rw [hW]; exact C3.new _ _ _ _
  rw [← hW]
  obtain ⟨n1, hn⟩ : ∃ n, n = w1.heap.size := ⟨_, rfl⟩
  rw [← hn] at hp ⊢
  have HL := Lib.hid (HC.out.below hb2)
  have HP := Lib.hid hp
  have HB2 := Lib.hid (below_then HB1.out (Nat.le_refl _) hb2)
  clear hW hb2 hp hn HB1 HC
  obtain ⟨-, s0, s1, s2, -⟩ := HP.out
  go_wp2_with fail
  refine (c_all (n := 2) HL.out.is good10 (by decide)).mono ?_
  rintro e w2 ⟨g, cap, R, rfl, -, hm, hb⟩
  rw [all10] at hm
  have e1 : R.length = 1 := by have := congrArg List.length hm; simpa using this
  rw [e1]
  have HL2 := Lib.hid (HL.out.below hb)
  have HP2 := Lib.hid (HP.out.below hb)
  have HB3 := Lib.hid (below_then HB2.out (Nat.le_refl _) hb)
  clear hm hb s0 s1 s2 e1 HL HP HB2
  obtain ⟨-, s0, s1, s2, -⟩ := HP2.out
  go_wp2_with fail
  have hfil : (⟨[mD], [], []⟩ : Con).filter (fun m => !deadF ⟨[mD], [], []⟩ ⟨3, 0, 0⟩ m) = ⟨[], [], []⟩ := by
    unfold Con.filter
    simp only [List.filter_cons, List.filter_nil, dead10]
    rfl
  have hsw := c_sweep (n := 2) ⟨3, 0, 0⟩ HL2.out.is good10 (by decide)
  rw [hfil] at hsw
  refine hsw.mono ?_
  rintro e w3 ⟨v3, rfl, hc3, hb⟩
  have HL3 := Lib.hid (HL2.out.below hb)
  have HP3 := Lib.hid (HP2.out.below hb)
  have HB4 := Lib.hid (below_then HB3.out (Nat.le_refl _) hb)
  have HC3 := Lib.hid hc3
  clear hsw hb hc3 s0 s1 s2 HL2 HP2 HB3
  go_wp2_with fail
  have hg0 : Good ⟨[], [], []⟩ 2 := by rw [← hfil]; exact good10.filter _
  refine (c_all (n := 2) HC3.out hg0 (by decide)).mono ?_
  rintro e w4 ⟨g4, cap4, R4, rfl, -, hm, hb⟩
  rw [alone_all] at hm
  have e1 : R4.length = 0 := by have := congrArg List.length hm; simpa using this
  rw [e1]
  have HL4 := Lib.hid (HL3.out.below hb)
  have HP4 := Lib.hid (HP3.out.below hb)
  have HB5 := Lib.hid (below_then HB4.out (Nat.le_refl _) hb)
  clear hm hb e1 HL3 HP3 HB4 HC3 hfil hg0
  obtain ⟨-, s0, s1, s2, -⟩ := HP4.out
  go_wp2_with fail
  have hdr := c_dropped (n := 2) ⟨3, 0, 0⟩ HL4.out.is good10 (by decide)
  rw [all10] at hdr
  have hfil2 : ([mD].filter fun m => deadF ⟨[mD], [], []⟩ ⟨3, 0, 0⟩ m) = [mD] := by simp only [List.filter_cons, List.filter_nil, dead10]; rfl
  rw [hfil2] at hdr
  refine hdr.mono ?_
  rintro e w5 ⟨v5, rfl, hr, hb⟩
  obtain ⟨ao, cap, rfl⟩ := hr.len
  have HB6 := Lib.hid (below_then HB5.out (Nat.le_refl _) hb)
  have hlen : [mD].length = 1 := rfl
  rw [hlen]
  clear hdr hr hb s0 s1 s2 hfil2 hlen
  go_wp2_with fail
  go_ret
  exact ⟨rfl, HB6.out⟩

set_option maxHeartbeats 8000000 in
set_option maxRecDepth 100000 in
theorem sexp_any (v1 : Value) (A : List Ro) (t : Int) (w : World) (hT : Tabs w) (hA : MRow w v1 A) (zA : ∀ x ∈ A, x.1.key.size ≤ maxLen ∧ x.1.fin.size ≤ maxLen ∧ x.1.val.size ≤ maxLen) :
    Calls Tryz.prog 6 #[v1, .int .i64 t] w (RetB true w) := by
  have HGa := Lib.hid (fun (W : World) (hW : RowKit.Below w.heap.size w W) => great_any v1 A 40 W (hA.below hW) (by decide) zA)
  obtain ⟨ga, hga⟩ : ∃ q, q = greatF (A.map (·.1)) 40 := ⟨_, rfl⟩
  rw [← hga] at HGa
  obtain ⟨la, hla⟩ : ∃ l, l = A.map (·.1) := ⟨_, rfl⟩
  rw [← hla] at hga
  have HRA := Lib.hid (show Reads w v1 la from ⟨A, hla.symm, hA⟩)
  obtain ⟨ao, ac, rfl, -, -⟩ := hA.form
  obtain ⟨na, hna⟩ : ∃ k, k = A.length := ⟨_, rfl⟩
  rw [← hna] at HGa HRA ⊢
  have HT := Lib.hid hT
  have HGG := Lib.hid hga
  clear hT hA zA hga hna hla
  obtain ⟨x, hx⟩ : ∃ x, x = leftOf la := ⟨_, rfl⟩
  have HXY := Lib.hid hx
  clear hx
  go_enter Tryz.func6, Tryz.ntmps6
  go_wp2_with fail
  refine (HGa.out _ (Below.refl _ _)).mono ?_
  rintro e w1 ⟨rfl, rfl⟩
  cases ga
  case true =>
    go_wp2_with fail
    go_ret
    exact ⟨rfl, Below.refl _ _⟩
  obtain ⟨lA, sA⟩ := great_small HGG.out.symm
  have HO := Lib.hid (show ∀ W, RowKit.Below w.heap.size w W → Calls Tryz.prog 9 #[.slice ao na ac] W (RetC x W) ∧ Calls Tryz.prog 10 #[.slice ao na ac] W (RetC x W) from by
    rw [HXY.out]
    exact fun W h => ⟨c_of (HT.out.below h) (HRA.out.below h) (by omega) sA, c_refof (HT.out.below h) (HRA.out.below h) (by omega) sA⟩)
  have HG := Lib.hid (show Good x 40 from by rw [HXY.out]; exact (leftOf_good la).more lA)
  have HSA := Lib.hid (show (allF x).length ≤ 40 ∧ ∀ m ∈ allF x, Small m from by
    have g : Good x 40 := HG.out
    exact ⟨by rw [len_allF]; exact g.okc.len, fun m hm => small_right (g.okc.right m (mem_allF.1 hm))⟩)
  clear lA sA HGG HGa HRA HXY
  go_wp2_with fail
  refine (HO.out _ (Below.refl _ _)).2.mono ?_
  rintro e w1 ⟨vv, rfl, hc, hb⟩
  have HC1 := Lib.hid hc
  have HB1 := Lib.hid hb
  clear hc hb
  go_wp2_with fail
  refine (c_refall (n := 40) HC1.out HG.out (by decide)).mono ?_
  rintro e W0 ⟨v2, rfl, ⟨R, hR, hd⟩, hb⟩
  obtain ⟨bo, bc, rfl, -, -⟩ := hd.form
  have hl1 : R.length ≤ 40 := by have h1 := congrArg List.length hR; rw [List.length_map] at h1; have := HSA.out.1; omega
  obtain ⟨n, hN⟩ : ∃ n, n = R.length := ⟨_, rfl⟩
  obtain ⟨F, hF⟩ : ∃ F : Ro → Bool, F = fun x => expF x.1 t := ⟨_, rfl⟩
  obtain ⟨Q, hQ⟩ : ∃ Q, Q = R.filter F := ⟨_, rfl⟩
  have HLQ := Lib.hid (show Q.map (·.1) = (allF x).filter fun m => expF m t by rw [hQ, ← hR, List.filter_map, hF]; rfl)
  have HDx := Lib.hid (show ∀ x : Ro, (∃ ao n cap, x.2 = .slice ao n cap) → ∀ W, Calls Tryz.prog 30 #[vM x, .int .i64 t] W (RetB (F x) W) from fun x hx W => by rw [hF]; exact refexp_any x t W hx)
  rw [← hN] at hd hl1 ⊢
  have HV := Lib.hid hd
  have HQ := Lib.hid hQ
  have HN := Lib.hid hN
  have HBase := Lib.hid (below_then HB1.out (Nat.le_refl _) hb)
  have HB0 := Lib.hid (Below.refl W0.heap.size W0)
  clear hR hd hN hQ hb hF HC1 HB1
  go_wp2_with fail
  go_loopw [5, 7] (fun ov iv wr => ∃ (k on : Nat) (out : List Ro), k ≤ n ∧ iv = .int .i64 k ∧ Hid (out ++ (R.drop k).filter F = Q) ∧ Hid (on = out.length) ∧ on ≤ k ∧ Hid (wr.ownsRow W0.heap.size 29 10 ov on (out.flatMap enM)) ∧ Hid (RowKit.Below W0.heap.size W0 wr)) (fun _ iv _ => n - (intOf iv).toNat)
  case atStart => exact ⟨0, 0, [], by omega, rfl, Lib.hid (by rw [HQ.out]; rfl), Lib.hid rfl, by simp, Lib.hid (World.ownsRow_nil _ _ _ _), Lib.hid (Below.refl _ _)⟩
  case round =>
    obtain ⟨k, on, out, hk, rfl, hput, hol2, hol, hown, hl⟩ := hrel
    have HBW := Lib.hid (below_then HB0.out (Nat.le_refl _) hl.out)
    by_cases hlt : k < n
    · have hkr : k < R.length := by have := HN.out; omega
      obtain ⟨x, hx⟩ : ∃ x, R[k]? = some x := ⟨_, List.getElem?_eq_getElem hkr⟩
      have hxe : R[k] = x := (List.getElem?_eq_some_iff.1 hx).2
      have hxm := List.mem_of_getElem? hx
      have hxo := (HV.out.below HBW.out).over x hxm
      obtain ⟨xb, xoff, hao, hat⟩ := (HV.out.below HBW.out).at_ hx
      cases hao
      have hst := hput.out
      rw [List.drop_eq_getElem_cons hkr, hxe] at hst
      have HXO := Lib.hid hxo
      obtain ⟨xo, xc, ex, -, -⟩ := Over.form hxo
      obtain ⟨D, hD⟩ : ∃ D, D = F x := ⟨_, rfl⟩
      have HTX := Lib.hid (fun W => HDx.out x ⟨_, _, _, ex⟩ W)
      rw [← hD] at HTX
      rw [List.filter_cons, ← hD] at hst
      clear hD hput hx hxe hxo hxm
      have HAT := Lib.hid hat
      clear hat
      obtain ⟨⟨at1, ak1, akey1, afin1, aval1, aex1, ⟨ap1, al1, aw1⟩, aov1⟩, av1⟩ := x
      simp only [] at ex
      obtain ⟨xn, hxn⟩ : ∃ k, k = aov1.length := ⟨_, rfl⟩
      rw [← hxn] at ex
      subst ex
      clear hxn
      unfold vM at HTX
      simp only [] at HTX
      have HST := Lib.hid hst
      clear hst
      obtain ⟨hbl, a0, a1, a2, a3, a4, a5, a6, a7, a8, a9⟩ := HAT.out
      simp only [] at a0 a1 a2 a3 a4 a5 a6 a7 a8 a9
      have j0 : (0 : Int) ≤ (k : Int) := by omega
      have j1 : (k : Int) < (n : Int) := by omega
      cases D
      · have HS2 := Lib.hid (show out ++ (R.drop (k + 1)).filter F = Q from HST.out)
        go_wp2_with fail
        refine (HTX.out _).mono ?_
        rintro e W1 ⟨rfl, hz⟩
        have HZ := Lib.hid hz
        clear hz
        have HF := Lib.hid (below_then hl.out (Nat.le_refl _) HZ.out)
        have HOi := Lib.hid (row_below hown.out HZ.out)
        clear a0 a1 a2 a3 a4 a5 a6 a7 a8 a9 hbl 
        go_wp2_with fail
        go_roundw
        case rel => exact ⟨k + 1, on, out, by omega, by go_num, HS2, hol2, by omega, HOi, HF⟩
        case measure => simp [intOf]; omega
      · have HS2 := Lib.hid (show (out ++ [(⟨⟨at1, ak1, akey1, afin1, aval1, aex1, ⟨ap1, al1, aw1⟩, aov1⟩, .slice xo xn xc⟩ : Ro)]) ++ (R.drop (k + 1)).filter F = Q by have h : out ++ ((⟨⟨at1, ak1, akey1, afin1, aval1, aex1, ⟨ap1, al1, aw1⟩, aov1⟩, .slice xo xn xc⟩ : Ro) :: (R.drop (k + 1)).filter F) = Q := HST.out; rw [← h]; simp)
        go_wp2_with fail
        refine (HTX.out _).mono ?_
        rintro e W1 ⟨rfl, hz⟩
        have HZ := Lib.hid hz
        clear hz
        have HF := Lib.hid (below_then hl.out (Nat.le_refl _) HZ.out)
        have HOi := Lib.hid (row_below hown.out HZ.out)
        clear a0 a1 a2 a3 a4 a5 a6 a7 a8 a9 hbl 
        have HA1 := Lib.hid (HAT.out.below HZ.out)
        have HX1 := Lib.hid (HXO.out.below HZ.out)
        obtain ⟨hbl, a0, a1, a2, a3, a4, a5, a6, a7, a8, a9⟩ := HA1.out
        simp only [] at a0 a1 a2 a3 a4 a5 a6 a7 a8 a9
        have hsz := HF.out.size
        go_wp2_with (at_builtin; refine wpList_append_rows rfl (.tmp 25) (.tmp 30) rfl W0.heap.size u5 on _ rfl (HOi.out.alloc _) (some ⟨W1.heap.size, 0, none⟩) 1 1 [(⟨⟨at1, ak1, akey1, afin1, aval1, aex1, ⟨ap1, al1, aw1⟩, aov1⟩, .slice xo xn xc⟩ : Ro)] rfl (one_row HX1.out) (by omega) (by simp; omega) ?_)
        intro v4 w4 hown4 hgr4
        have HO4 := Lib.hid (show w4.ownsRow W0.heap.size 29 10 v4 (on + 1) ((out ++ [(⟨⟨at1, ak1, akey1, afin1, aval1, aex1, ⟨ap1, al1, aw1⟩, aov1⟩, .slice xo xn xc⟩ : Ro)]).flatMap enM) by rw [List.flatMap_append]; exact hown4)
        have HB4 := Lib.hid ((HF.out.alloc hsz _).grown hgr4 (by simp; omega) (fun k hk => (HOi.out.lt k hk).1))
        clear hown4 hgr4 a0 a1 a2 a3 a4 a5 a6 a7 a8 a9
        go_wp2_with fail
        go_roundw
        case rel => exact ⟨k + 1, on + 1, _, by omega, by go_num, HS2, Lib.hid (by have := hol2.out; simp; omega), by omega, HO4, HB4⟩
        case measure => simp [intOf]; omega
    · obtain rfl : k = n := by omega
      have HQ2 := Lib.hid (show out = Q by have h := hput.out; rw [List.drop_of_length_le (by have := HN.out; omega)] at h; simpa using h)
      have HSUB := Lib.hid (show ∀ y ∈ Q, y ∈ R from fun y hy => by rw [HQ.out] at hy; exact (List.mem_filter.1 hy).1)
      have HMR := Lib.hid (show MRow wr u5 Q from ⟨by rw [← HQ2.out]; exact Lst.owned enM_len (by decide) hol2.out hown.out, fun y hy => (HV.out.over y (HSUB.out y hy)).below HBW.out⟩)
      have HBz := Lib.hid (below_then HBase.out (Nat.le_refl _) hl.out)
      obtain ⟨W8, hW8⟩ : ∃ W8, W8 = wr := ⟨_, rfl⟩
      rw [← hW8] at HMR HBz ⊢
      have HMQ := Lib.hid (show Reads W8 u5 ((allF x).filter fun m => expF m t) from ⟨Q, HLQ.out, HMR.out⟩)
      clear hW8 HMR hown hl HBW
      go_wp2_with fail
      refine (HO.out _ HBz.out).1.mono ?_
      rintro e w2 ⟨v2, rfl, hc, hb⟩
      have HC2 := Lib.hid hc
      have HM2 := Lib.hid (HMQ.out.below hb)
      have HB2 := Lib.hid (below_then HBz.out (Nat.le_refl _) hb)
      clear hc hb HMQ HBz
      go_wp2_with fail
      refine (c_expired (n := 40) t HC2.out HG.out (by decide)).mono ?_
      rintro e w3 ⟨v3, rfl, hr, hb⟩
      have HR3 := Lib.hid hr
      have HM3 := Lib.hid (HM2.out.below hb)
      have HB3 := Lib.hid (below_then HB2.out (Nat.le_refl _) hb)
      clear hr hb HM2 HB2 HC2
      go_wp2_with fail
      refine (c_rsame HR3.out HM3.out (fun m hm => HSA.out.2 m (List.mem_filter.1 hm).1)).mono ?_
      rintro e w4 ⟨rfl, hb⟩
      have HB4 := Lib.hid (below_then HB3.out (Nat.le_refl _) hb)
      clear hb HM3 HB3 HR3
      go_wp2_with fail
      refine (alive10_any _ (HT.out.below HB4.out)).mono ?_
      rintro e w5 ⟨rfl, hb⟩
      have HB5 := Lib.hid (below_then HB4.out (Nat.le_refl _) hb)
      clear hb HB4
      go_wp2_with fail
      go_ret
      exact ⟨rfl, HB5.out⟩

set_option maxHeartbeats 8000000 in
set_option maxRecDepth 100000 in
theorem stakes_any (v1 : Value) (A : List Ro) (s : Stp) (w : World) (hT : Tabs w) (hA : MRow w v1 A) (zA : ∀ x ∈ A, x.1.key.size ≤ maxLen ∧ x.1.fin.size ≤ maxLen ∧ x.1.val.size ≤ maxLen) :
    Calls Tryz.prog 7 #[v1, vS s] w (RetB true w) := by
  have HGa := Lib.hid (fun (W : World) (hW : RowKit.Below w.heap.size w W) => great_any v1 A 40 W (hA.below hW) (by decide) zA)
  obtain ⟨ga, hga⟩ : ∃ q, q = greatF (A.map (·.1)) 40 := ⟨_, rfl⟩
  rw [← hga] at HGa
  obtain ⟨la, hla⟩ : ∃ l, l = A.map (·.1) := ⟨_, rfl⟩
  rw [← hla] at hga
  have HRA := Lib.hid (show Reads w v1 la from ⟨A, hla.symm, hA⟩)
  obtain ⟨ao, ac, rfl, -, -⟩ := hA.form
  obtain ⟨na, hna⟩ : ∃ k, k = A.length := ⟨_, rfl⟩
  rw [← hna] at HGa HRA ⊢
  have HT := Lib.hid hT
  have HGG := Lib.hid hga
  clear hT hA zA hga hna hla
  obtain ⟨x, hx⟩ : ∃ x, x = leftOf la := ⟨_, rfl⟩
  have HXY := Lib.hid hx
  clear hx
  obtain ⟨sp, sl, sw⟩ := s
  unfold vS
  simp only []
  obtain ⟨W0, hW0⟩ : ∃ W0, W0 = w.alloc (.cells #[.int .i64 sp, .int .i64 sl, .int .i64 sw] 26) := ⟨_, rfl⟩
  have z0 : W0.cell? ⟨w.heap.size, 0, none⟩ = some (.int .i64 sp) := by rw [hW0]; go_simp
  have z1 : W0.cell? ⟨w.heap.size, 1, none⟩ = some (.int .i64 sl) := by rw [hW0]; go_simp
  have z2 : W0.cell? ⟨w.heap.size, 2, none⟩ = some (.int .i64 sw) := by rw [hW0]; go_simp
  have hz : w.heap.size < W0.heap.size := by rw [hW0]; simp
  have HB0 := Lib.hid (show RowKit.Below w.heap.size w W0 by rw [hW0]; exact (Below.refl _ w).alloc (Nat.le_refl _) _)
  obtain ⟨n0, hn0⟩ : ∃ n0, n0 = w.heap.size := ⟨_, rfl⟩
  rw [← hn0] at z0 z1 z2 hz
  have HZ := Lib.hid (show ∀ W, RowKit.Below W0.heap.size W0 W → W.cell? ⟨n0, 0, none⟩ = some (.int .i64 sp) ∧ W.cell? ⟨n0, 1, none⟩ = some (.int .i64 sl) ∧ W.cell? ⟨n0, 2, none⟩ = some (.int .i64 sw) from fun W h => ⟨(h.cell (p := ⟨n0, 0, none⟩) hz).trans z0, (h.cell (p := ⟨n0, 1, none⟩) hz).trans z1, (h.cell (p := ⟨n0, 2, none⟩) hz).trans z2⟩)
  have HE0 := Lib.hid (Below.refl W0.heap.size W0)
  have HW0 := Lib.hid hW0
  have HN0 := Lib.hid hn0
  clear z0 z1 z2 hz hW0 hn0
  go_enter Tryz.func7, Tryz.ntmps7
  go_upto_region 1 with fail
  rw [← HW0.out, ← HN0.out]
  clear HW0
  go_wp2_with fail
  refine (HGa.out _ HB0.out).mono ?_
  rintro e w1 ⟨rfl, rfl⟩
  cases ga
  case true =>
    go_wp2_with fail
    go_ret
    exact ⟨rfl, HB0.out⟩
  obtain ⟨lA, sA⟩ := great_small HGG.out.symm
  have HO := Lib.hid (show ∀ W, RowKit.Below w.heap.size w W → Calls Tryz.prog 9 #[.slice ao na ac] W (RetC x W) ∧ Calls Tryz.prog 10 #[.slice ao na ac] W (RetC x W) from by
    rw [HXY.out]
    exact fun W h => ⟨c_of (HT.out.below h) (HRA.out.below h) (by omega) sA, c_refof (HT.out.below h) (HRA.out.below h) (by omega) sA⟩)
  have HG := Lib.hid (show Good x 40 from by rw [HXY.out]; exact (leftOf_good la).more lA)
  have HSA := Lib.hid (show (allF x).length ≤ 40 ∧ ∀ m ∈ allF x, Small m from by
    have g : Good x 40 := HG.out
    exact ⟨by rw [len_allF]; exact g.okc.len, fun m hm => small_right (g.okc.right m (mem_allF.1 hm))⟩)
  clear lA sA HGG HGa HRA HXY
  go_wp2_with fail
  refine (HO.out _ HB0.out).1.mono ?_
  rintro e w1 ⟨vv, rfl, hl, hb⟩
  obtain ⟨p1, q1, r1, p2, q2, r2, p3, q3, r3, rfl, hl1⟩ := hl.form
  have HLx0 := Lib.hid hl1
  have HB1 := Lib.hid (below_then HB0.out (Nat.le_refl _) hb)
  have HE1 := Lib.hid (below_then HE0.out (Nat.le_refl _) hb)
  clear hl hb hl1
  go_wp2_with fail
  refine (HO.out _ HB1.out).2.mono ?_
  rintro e w2 ⟨vv, rfl, hl, hb⟩
  obtain ⟨p4, q4, r4, p5, q5, r5, p6, q6, r6, rfl, hl1⟩ := hl.form
  have HLu0 := Lib.hid hl1
  have HLx1 := Lib.hid (HLx0.out.below hb)
  have HB2 := Lib.hid (below_then HB1.out (Nat.le_refl _) hb)
  have HE2 := Lib.hid (below_then HE1.out (Nat.le_refl _) hb)
  clear hl hb hl1 HLx0
  go_upto_region 4 with fail
  obtain ⟨W3, hW⟩ : ∃ W, W = ((w2.alloc (.cells #[.slice p1 q1 r1, .slice p2 q2 r2, .slice p3 q3 r3] 32)).alloc (.cells #[.slice p4 q4 r4, .slice p5 q5 r5, .slice p6 q6 r6] 34)) := ⟨_, rfl⟩
  rw [← hW]
  have hb3 : RowKit.Below w2.heap.size w2 W3 := by rw [hW]; exact ((Below.refl _ _).alloc (Nat.le_refl _) _).alloc (by simp) _
  have x3 : C3 W3 w2.heap.size (.slice p1 q1 r1) (.slice p2 q2 r2) (.slice p3 q3 r3) := by
    rw [hW]
    exact (C3.new w2 _ _ _).below ((Below.refl _ _).alloc (Nat.le_refl _) _)
  have u3 : C3 W3 (w2.heap.size + 1) (.slice p4 q4 r4) (.slice p5 q5 r5) (.slice p6 q6 r6) := by
    rw [hW]
    have := C3.newR (w2.alloc (.cells #[.slice p1 q1 r1, .slice p2 q2 r2, .slice p3 q3 r3] 32)) (.slice p4 q4 r4) (.slice p5 q5 r5) (.slice p6 q6 r6)
    rwa [World.size_alloc] at this
  have HLx := Lib.hid (HLx1.out.below hb3)
  have HLu := Lib.hid (HLu0.out.below hb3)
  have HB3 := Lib.hid (below_then HB2.out (Nat.le_refl _) hb3)
  have HE3 := Lib.hid (below_then HE2.out (Nat.le_refl _) hb3)
  obtain ⟨n2, hn⟩ : ∃ n, n = w2.heap.size := ⟨_, rfl⟩
  rw [← hn] at x3 u3 ⊢
  have HCx := Lib.hid x3
  have HCu := Lib.hid u3
  clear hW hb3 x3 u3 hn HLx1 HLu0 HE0 HE1 HE2
  have HZ3 := Lib.hid (fun W (h : RowKit.Below W3.heap.size W3 W) => HZ.out W (below_then HE3.out (Nat.le_refl _) h))
  have HI := Lib.hid (fun W (h : RowKit.Below W3.heap.size W3 W) => And.intro (HLx.out.below h).is (HLu.out.below h).is)
  have HTW := Lib.hid (fun W (h : RowKit.Below W3.heap.size W3 W) => HT.out.below (below_then HB3.out (Nat.le_refl _) h))
  obtain ⟨ds, hds⟩ : ∃ ds, ds = deadsF x ⟨sp, sl, sw⟩ := ⟨_, rfl⟩
  obtain ⟨sx, hsx⟩ : ∃ sx, sx = x.filter fun m => !deadF x ⟨sp, sl, sw⟩ m := ⟨_, rfl⟩
  obtain ⟨wv, hwv⟩ : ∃ wv, wv = wasteF x ⟨sp, sl, sw⟩ := ⟨_, rfl⟩
  obtain ⟨dn, hdn⟩ : ∃ dn, dn = ds.length := ⟨_, rfl⟩
  obtain ⟨an, han⟩ : ∃ an, an = (allF x).length := ⟨_, rfl⟩
  obtain ⟨zq, hzq⟩ : ∃ zq, zq = decide (dn = 0) := ⟨_, rfl⟩
  have han40 : an ≤ 40 := by rw [han]; exact HSA.out.1
  have hda : dn ≤ an := by rw [hdn, han, hds]; exact List.length_filter_le _ _
  have HWV := Lib.hid (show wv = if an = 0 then 0 else (100 * (dn : Int)) / (an : Int) from by rw [hwv, hdn, han, hds]; rfl)
  have HLD := Lib.hid (And.intro hdn han)
  have HDr := Lib.hid (fun v W (hv : IsC x v W) => show Calls Tryz.prog 33 #[v, .agg #[.int .i64 sp, .int .i64 sl, .int .i64 sw]] W (RetR ds W) from by rw [hds]; exact c_refdropped (m := 40) ⟨sp, sl, sw⟩ hv HG.out (by decide))
  have HDp := Lib.hid (fun v W (hv : IsC x v W) => show Calls Tryz.prog 36 #[v, .agg #[.int .i64 sp, .int .i64 sl, .int .i64 sw]] W (RetR ds W) from by rw [hds]; exact c_dropped (n := 40) ⟨sp, sl, sw⟩ hv HG.out (by decide))
  have HSr := Lib.hid (fun v W (hv : IsC x v W) => show Calls Tryz.prog 34 #[v, .agg #[.int .i64 sp, .int .i64 sl, .int .i64 sw]] W (RetC sx W) from by rw [hsx]; exact c_refsweep (n := 40) ⟨sp, sl, sw⟩ hv HG.out (by decide))
  have HSp := Lib.hid (fun v W (hv : IsC x v W) => show Calls Tryz.prog 35 #[v, .agg #[.int .i64 sp, .int .i64 sl, .int .i64 sw]] W (RetC sx W) from by rw [hsx]; exact c_sweep (n := 40) ⟨sp, sl, sw⟩ hv HG.out (by decide))
  have HZq := Lib.hid (fun v W (hv : IsC x v W) => show Calls Tryz.prog 37 #[v, .agg #[.int .i64 sp, .int .i64 sl, .int .i64 sw]] W (RetB zq W) from by rw [hzq, hdn, hds]; exact c_swept (n := 40) ⟨sp, sl, sw⟩ hv HG.out (by decide))
  have HWa := Lib.hid (fun v W (hv : IsC x v W) => show Calls Tryz.prog 38 #[v, .agg #[.int .i64 sp, .int .i64 sl, .int .i64 sw]] W (fun e w' => e = .returned (.int .i64 wv) ∧ RowKit.Below W.heap.size W w') from by rw [hwv]; exact c_waste (n := 40) ⟨sp, sl, sw⟩ hv HG.out (by decide))
  have HGs := Lib.hid (show Good sx 40 from by rw [hsx]; exact HG.out.filter _)
  have HSD := Lib.hid (show ∀ m ∈ ds, Small m from fun m hm => by rw [hds] at hm; exact HSA.out.2 m (List.mem_filter.1 hm).1)
  have HZQ := Lib.hid hzq
  clear hds hsx hwv hdn han hzq
  go_wp2_with fail
  refine wp_region_told [] 7 [false, false, false, false, false, false, false, false, true, false, false, false, false, false, false, false, true, true, true, true, true, true, false, false, false, false, false, false, false, false, false, false, false, false, false, false, false, false, false, false, false, false, false, false, false, false, false, false, false, false, false, false, false, false, false, false, false, false, false, false, false, false, false, false, false, false, false, false, false]
    [sLit (.agg #[.slice p4 q4 r4, .slice p5 q5 r5, .slice p6 q6 r6]),
    sLit (.agg #[.int .i64 sp, .int .i64 sl, .int .i64 sw]),
    sOne (fun v W => Reads W v (ds)) (fun _ _ _ h hb => h.below hb),
    sLit (.agg #[.slice p4 q4 r4, .slice p5 q5 r5, .slice p6 q6 r6]),
    sLit (.agg #[.int .i64 sp, .int .i64 sl, .int .i64 sw]),
    sOne (IsC (sx)) (fun _ _ _ h hb => h.below hb),
    sOne (fun v W => ∃ k, v = .pointer (some ⟨k, 0, none⟩) ∧ C3 W k (.slice none 0 0) (.slice none 0 0) (.slice none 0 0) ∧ W3.heap.size ≤ k) (fun _ _ _ h hb => h.elim fun k h => ⟨k, h.1, h.2.1.below hb, h.2.2⟩)] (by kernel_rfl) (by kernel_rfl) (by kernel_rfl) (fun F hF => ?_)
  simp only [over, overL, Nat.reduceAdd] at hF
  obtain rfl := funext hF
  clear hF
  refine ⟨⟨?_, ?_, ?_, ?_, ?_, ?_, ?_, trivial⟩, ?_⟩
  · intro V W hb hd K hK _
    clear hd
    obtain ⟨-, s0, s1, s2, -⟩ := HCu.out.below hb
    go_wp2_with fail
    refine hK _ _ ?_ ?_ ?_ ?_
    · rfl
    · exact Below.refl _ _
    · exact rfl
    · trivial
  · intro V W hb hd K hK _
    clear hd
    obtain ⟨z0, z1, z2⟩ := (HZ3.out W hb)
    go_wp2_with fail
    refine hK _ _ ?_ ?_ ?_ ?_
    · rfl
    · exact Below.refl _ _
    · exact rfl
    · trivial
  · intro V W hb hd K hK _
    have h0 : (V 16) = .agg #[.slice p4 q4 r4, .slice p5 q5 r5, .slice p6 q6 r6] := hd 0 (by kernel_rfl)
    have h1 : (V 17) = .agg #[.int .i64 sp, .int .i64 sl, .int .i64 sw] := hd 1 (by kernel_rfl)
    clear hd
    go_wp2_with fail
    refine (HDr.out _ W (HI.out W hb).2).mono ?_
    rintro e w1 ⟨v1, rfl, hv1, hb1⟩
    go_wp2_with fail
    refine hK _ _ ?_ ?_ ?_ ?_
    · rfl
    · exact hb1
    · exact hv1
    · trivial
  · intro V W hb hd K hK _
    clear hd
    obtain ⟨-, s0, s1, s2, -⟩ := HCu.out.below hb
    go_wp2_with fail
    refine hK _ _ ?_ ?_ ?_ ?_
    · rfl
    · exact Below.refl _ _
    · exact rfl
    · trivial
  · intro V W hb hd K hK _
    clear hd
    obtain ⟨z0, z1, z2⟩ := (HZ3.out W hb)
    go_wp2_with fail
    refine hK _ _ ?_ ?_ ?_ ?_
    · rfl
    · exact Below.refl _ _
    · exact rfl
    · trivial
  · intro V W hb hd K hK _
    have h3 : (V 19) = .agg #[.slice p4 q4 r4, .slice p5 q5 r5, .slice p6 q6 r6] := hd 3 (by kernel_rfl)
    have h4 : (V 20) = .agg #[.int .i64 sp, .int .i64 sl, .int .i64 sw] := hd 4 (by kernel_rfl)
    clear hd
    go_wp2_with fail
    refine (HSr.out _ W (HI.out W hb).2).mono ?_
    rintro e w1 ⟨v1, rfl, hv1, hb1⟩
    go_wp2_with fail
    refine hK _ _ ?_ ?_ ?_ ?_
    · rfl
    · exact hb1
    · exact hv1
    · trivial
  · intro V W hb hd K hK _
    clear hd
    go_wp2_with fail
    refine hK _ _ ?_ ?_ ?_ ?_
    · rfl
    · exact (Below.refl _ _).alloc (Nat.le_refl _) _
    · exact ⟨_, rfl, C3.newR W _ _ _, hb.size⟩
    · trivial
  · intro V W hb hd hap
    have h2 : Reads W (V 18) (ds) := hd 2 (by decide)
    have h5 : IsC (sx) (V 21) W := hd 5 (by decide)
    have h6 : ∃ k, (V 8) = .pointer (some ⟨k, 0, none⟩) ∧ C3 W k (.slice none 0 0) (.slice none 0 0) (.slice none 0 0) ∧ W3.heap.size ≤ k := hd 6 (by decide)
    clear hd hap
    simp only [List.drop_succ_cons, List.drop_zero]
    obtain ⟨p7, q7, r7, p8, q8, r8, p9, q9, r9, e5, hl5⟩ := h5.form
    obtain ⟨do_, dc, e2⟩ := h2.len
    rw [← HLD.out.1] at e2
    rw [e2] at h2
    obtain ⟨k8, e6, c8, g8⟩ := h6
    have HQ := Lib.hid (And.intro hl5 (And.intro c8 (And.intro g8 h2)))
    have HB := Lib.hid hb
    clear h5 hl5 g8 hb h2
    obtain ⟨-, t0, t1, t2, f0, f1, f2⟩ := c8
    go_upto_region 6 with fail
    obtain ⟨W4, hW4⟩ : ∃ W4, W4 = (((W.setCell ⟨k8, 0, none⟩ (.slice p7 q7 r7)).setCell ⟨k8, 1, none⟩ (.slice p8 q8 r8)).setCell ⟨k8, 2, none⟩ (.slice p9 q9 r9)) := ⟨_, rfl⟩
    rw [← hW4]
    have k1 := c3_put HQ.out.2.1 (.slice p7 q7 r7) (.slice p8 q8 r8) (.slice p9 q9 r9)
    have hb7 : RowKit.Below W3.heap.size W3 W4 := by rw [hW4]; exact c3_put_below HB.out HQ.out.2.2.1 _ _ _
    have l1 := HQ.out.1.plain3 (plain3 HQ.out.2.1 (.slice p7 q7 r7) (.slice p8 q8 r8) (.slice p9 q9 r9))
    have l2 := HQ.out.2.2.2.plain3 (plain3 HQ.out.2.1 (.slice p7 q7 r7) (.slice p8 q8 r8) (.slice p9 q9 r9))
    rw [← hW4] at k1 l1 l2
    have HCs := Lib.hid k1
    have HLs := Lib.hid l1
    have HLd := Lib.hid l2
    have H34 := Lib.hid hb7
    clear hW4 k1 l1 l2 hb7 HQ HB t0 t1 t2 f0 f1 f2 e5 e2 e6
    have HZ4 := Lib.hid (fun W (h : RowKit.Below W4.heap.size W4 W) => HZ3.out W (below_then H34.out (Nat.le_refl _) h))
    have HI4 := Lib.hid (fun W (h : RowKit.Below W4.heap.size W4 W) => HI.out W (below_then H34.out (Nat.le_refl _) h))
    have HTW4 := Lib.hid (fun W (h : RowKit.Below W4.heap.size W4 W) => HTW.out W (below_then H34.out (Nat.le_refl _) h))
    have HF4 := Lib.hid (fun W (h : RowKit.Below W4.heap.size W4 W) => And.intro (HCx.out.below (below_then H34.out (Nat.le_refl _) h)) (And.intro (HCu.out.below (below_then H34.out (Nat.le_refl _) h)) (HCs.out.below h)))
    clear HZ3 HI HTW HCx HCu HCs HLx HLu
    obtain ⟨-, s0, s1, s2, -⟩ := (HF4.out W4 (Below.refl _ _)).2.1
    go_wp2_with fail
    refine (c_refall (n := 40) (HI4.out W4 (Below.refl _ _)).2 HG.out (by decide)).mono ?_
    rintro e w5 ⟨v5, rfl, hr, hb⟩
    obtain ⟨ro, rc, e5⟩ := hr.len
    rw [← HLD.out.2] at e5
    subst e5
    have H45 := Lib.hid hb
    clear hr hb s0 s1 s2
    by_cases hz : an = 0
    · have hw0 : wv = 0 := by rw [HWV.out, if_pos hz]
      subst hw0
      subst hz
      go_upto_region 8 with fail
      have HZ5 := Lib.hid (fun W (h : RowKit.Below w5.heap.size w5 W) => HZ4.out W (below_then H45.out (Nat.le_refl _) h))
      have HI5 := Lib.hid (fun W (h : RowKit.Below w5.heap.size w5 W) => HI4.out W (below_then H45.out (Nat.le_refl _) h))
      have HTW5 := Lib.hid (fun W (h : RowKit.Below w5.heap.size w5 W) => HTW4.out W (below_then H45.out (Nat.le_refl _) h))
      have HF5 := Lib.hid (fun W (h : RowKit.Below w5.heap.size w5 W) => HF4.out W (below_then H45.out (Nat.le_refl _) h))
      go_wp2_with fail
      refine wp_region_told [] 36 [false, false, false, false, false, false, false, false, false, false, false, false, false, false, false, false, false, false, false, false, false, false, false, false, false, false, false, false, false, false, false, false, false, true, true, true, true, true, true, true, true, true, true, true, true, true, true, true, true, true, true, true, true, true, true, true, true, true, true, true, true, true, true, true, true, true, true, true, true]
        [sLit (.agg #[.slice p1 q1 r1, .slice p2 q2 r2, .slice p3 q3 r3]),
    sLit (.agg #[.int .i64 sp, .int .i64 sl, .int .i64 sw]),
    sOne (IsC (sx)) (fun _ _ _ h hb => h.below hb),
    sLit (.agg #[.slice p7 q7 r7, .slice p8 q8 r8, .slice p9 q9 r9]),
    sLit (.bool true),
    sLit (.bool true),
    sLit (.agg #[.slice p1 q1 r1, .slice p2 q2 r2, .slice p3 q3 r3]),
    sLit (.agg #[.int .i64 sp, .int .i64 sl, .int .i64 sw]),
    sOne (fun v W => Reads W v (ds)) (fun _ _ _ h hb => h.below hb),
    sLit (.slice do_ dn dc),
    sLit (.bool true),
    sLit (.bool true),
    sLit (.bool true),
    sLit (.agg #[.slice p1 q1 r1, .slice p2 q2 r2, .slice p3 q3 r3]),
    sLit (.agg #[.int .i64 sp, .int .i64 sl, .int .i64 sw]),
    sLit (.bool zq),
    sLit (.slice do_ dn dc),
    sLit (.int .i64 dn),
    sLit (.bool zq),
    sLit (.bool true),
    sLit (.bool true),
    sLit (.bool true),
    sLit (.agg #[.slice p1 q1 r1, .slice p2 q2 r2, .slice p3 q3 r3]),
    sLit (.agg #[.int .i64 sp, .int .i64 sl, .int .i64 sw]),
    sLit (.int .i64 0),
    sLit (.int .i64 0),
    sLit (.bool true),
    sLit (.bool true),
    sLit (.bool true),
    sLit (.agg #[.slice p1 q1 r1, .slice p2 q2 r2, .slice p3 q3 r3]),
    sLit (.agg #[.slice p4 q4 r4, .slice p5 q5 r5, .slice p6 q6 r6]),
    sLit (.bool true),
    sLit (.bool true),
    sLit (.bool true),
    sLit (.bool true),
    sLit (.bool true)] (by kernel_rfl) (by kernel_rfl) (by kernel_rfl) (fun F hF => ?_)
      simp only [over, overL, Nat.reduceAdd] at hF
      obtain rfl := funext hF
      clear hF
      refine ⟨⟨?_, ?_, ?_, ?_, ?_, ?_, ?_, ?_, ?_, ?_, ?_, ?_, ?_, ?_, ?_, ?_, ?_, ?_, ?_, ?_, ?_, ?_, ?_, ?_, ?_, ?_, ?_, ?_, ?_, ?_, ?_, ?_, ?_, ?_, ?_, ?_, trivial⟩, ?_⟩
      · intro V W hb hd K hK _
        clear hd
        obtain ⟨-, s0, s1, s2, -⟩ := (HF5.out W hb).1
        go_wp2_with fail
        refine hK _ _ ?_ ?_ ?_ ?_
        · rfl
        · exact Below.refl _ _
        · exact rfl
        · trivial
      · intro V W hb hd K hK _
        clear hd
        obtain ⟨z0, z1, z2⟩ := (HZ5.out W hb)
        go_wp2_with fail
        refine hK _ _ ?_ ?_ ?_ ?_
        · rfl
        · exact Below.refl _ _
        · exact rfl
        · trivial
      · intro V W hb hd K hK _
        have h0 : (V 33) = .agg #[.slice p1 q1 r1, .slice p2 q2 r2, .slice p3 q3 r3] := hd 0 (by kernel_rfl)
        have h1 : (V 34) = .agg #[.int .i64 sp, .int .i64 sl, .int .i64 sw] := hd 1 (by kernel_rfl)
        clear hd
        go_wp2_with fail
        refine (HSp.out _ W (HI5.out W hb).1).mono ?_
        rintro e w1 ⟨v1, rfl, hv1, hb1⟩
        go_wp2_with fail
        refine hK _ _ ?_ ?_ ?_ ?_
        · rfl
        · exact hb1
        · exact hv1
        · trivial
      · intro V W hb hd K hK _
        clear hd
        obtain ⟨-, s0, s1, s2, -⟩ := (HF5.out W hb).2.2
        go_wp2_with fail
        refine hK _ _ ?_ ?_ ?_ ?_
        · rfl
        · exact Below.refl _ _
        · exact rfl
        · trivial
      · intro V W hb hd K hK _
        have h2 : IsC (sx) (V 35) W := hd 2 (by kernel_rfl)
        have h3 : (V 36) = .agg #[.slice p7 q7 r7, .slice p8 q8 r8, .slice p9 q9 r9] := hd 3 (by kernel_rfl)
        clear hd
        go_wp2_with fail
        refine (c_is true ⟨fun _ => rfl, fun _ => rfl⟩ h2 HGs.out (HLs.out.below (below_then (H45.out) (Nat.le_refl _) hb)).is HGs.out).mono ?_
        rintro e w1 ⟨rfl, hb1⟩
        go_wp2_with fail
        refine hK _ _ ?_ ?_ ?_ ?_
        · rfl
        · exact hb1
        · exact rfl
        · trivial
      · intro V W hb hd K hK _
        have h4 : (V 37) = .bool true := hd 4 (by kernel_rfl)
        clear hd
        go_wp2_with fail
        refine hK _ _ ?_ ?_ ?_ ?_
        · rfl
        · exact Below.refl _ _
        · exact rfl
        · trivial
      · intro V W hb hd K hK _
        have h5 : (V 38) = .bool true := hd 5 (by kernel_rfl)
        clear hd
        obtain ⟨-, s0, s1, s2, -⟩ := (HF5.out W hb).1
        go_wp2_with fail
        refine hK _ _ ?_ ?_ ?_ ?_
        · rfl
        · exact Below.refl _ _
        · exact rfl
        · trivial
      · intro V W hb hd K hK _
        have h5 : (V 38) = .bool true := hd 5 (by kernel_rfl)
        clear hd
        obtain ⟨z0, z1, z2⟩ := (HZ5.out W hb)
        go_wp2_with fail
        refine hK _ _ ?_ ?_ ?_ ?_
        · rfl
        · exact Below.refl _ _
        · exact rfl
        · trivial
      · intro V W hb hd K hK _
        have h5 : (V 38) = .bool true := hd 5 (by kernel_rfl)
        have h6 : (V 39) = .agg #[.slice p1 q1 r1, .slice p2 q2 r2, .slice p3 q3 r3] := hd 6 (by kernel_rfl)
        have h7 : (V 40) = .agg #[.int .i64 sp, .int .i64 sl, .int .i64 sw] := hd 7 (by kernel_rfl)
        clear hd
        go_wp2_with fail
        refine (HDp.out _ W (HI5.out W hb).1).mono ?_
        rintro e w1 ⟨v1, rfl, hv1, hb1⟩
        go_wp2_with fail
        refine hK _ _ ?_ ?_ ?_ ?_
        · rfl
        · exact hb1
        · exact hv1
        · trivial
      · intro V W hb hd K hK _
        have h5 : (V 38) = .bool true := hd 5 (by kernel_rfl)
        clear hd
        go_wp2_with fail
        refine hK _ _ ?_ ?_ ?_ ?_
        · rfl
        · exact Below.refl _ _
        · exact rfl
        · trivial
      · intro V W hb hd K hK _
        have h5 : (V 38) = .bool true := hd 5 (by kernel_rfl)
        have h8 : Reads W (V 41) (ds) := hd 8 (by kernel_rfl)
        have h9 : (V 42) = .slice do_ dn dc := hd 9 (by kernel_rfl)
        clear hd
        go_wp2_with fail
        refine (c_rsame h8 (HLd.out.below (below_then (H45.out) (Nat.le_refl _) hb)) HSD.out).mono ?_
        rintro e w1 ⟨rfl, hb1⟩
        go_wp2_with fail
        refine hK _ _ ?_ ?_ ?_ ?_
        · rfl
        · exact hb1
        · exact rfl
        · trivial
      · intro V W hb hd K hK _
        have h5 : (V 38) = .bool true := hd 5 (by kernel_rfl)
        have h10 : (V 43) = .bool true := hd 10 (by kernel_rfl)
        clear hd
        go_wp2_with fail
        refine hK _ _ ?_ ?_ ?_ ?_
        · rfl
        · exact Below.refl _ _
        · exact rfl
        · trivial
      · intro V W hb hd K hK _
        have h11 : (V 44) = .bool true := hd 11 (by kernel_rfl)
        clear hd
        go_wp2_with fail
        refine hK _ _ ?_ ?_ ?_ ?_
        · rfl
        · exact Below.refl _ _
        · exact rfl
        · trivial
      · intro V W hb hd K hK _
        have h12 : (V 45) = .bool true := hd 12 (by kernel_rfl)
        clear hd
        obtain ⟨-, s0, s1, s2, -⟩ := (HF5.out W hb).1
        go_wp2_with fail
        refine hK _ _ ?_ ?_ ?_ ?_
        · rfl
        · exact Below.refl _ _
        · exact rfl
        · trivial
      · intro V W hb hd K hK _
        have h12 : (V 45) = .bool true := hd 12 (by kernel_rfl)
        clear hd
        obtain ⟨z0, z1, z2⟩ := (HZ5.out W hb)
        go_wp2_with fail
        refine hK _ _ ?_ ?_ ?_ ?_
        · rfl
        · exact Below.refl _ _
        · exact rfl
        · trivial
      · intro V W hb hd K hK _
        have h12 : (V 45) = .bool true := hd 12 (by kernel_rfl)
        have h13 : (V 46) = .agg #[.slice p1 q1 r1, .slice p2 q2 r2, .slice p3 q3 r3] := hd 13 (by kernel_rfl)
        have h14 : (V 47) = .agg #[.int .i64 sp, .int .i64 sl, .int .i64 sw] := hd 14 (by kernel_rfl)
        clear hd
        go_wp2_with fail
        refine (HZq.out _ W (HI5.out W hb).1).mono ?_
        rintro e w1 ⟨rfl, hb1⟩
        go_wp2_with fail
        refine hK _ _ ?_ ?_ ?_ ?_
        · rfl
        · exact hb1
        · exact rfl
        · trivial
      · intro V W hb hd K hK _
        have h12 : (V 45) = .bool true := hd 12 (by kernel_rfl)
        clear hd
        go_wp2_with fail
        refine hK _ _ ?_ ?_ ?_ ?_
        · rfl
        · exact Below.refl _ _
        · exact rfl
        · trivial
      · intro V W hb hd K hK _
        have h12 : (V 45) = .bool true := hd 12 (by kernel_rfl)
        have h16 : (V 49) = .slice do_ dn dc := hd 16 (by kernel_rfl)
        clear hd
        go_wp2_with fail
        refine hK _ _ ?_ ?_ ?_ ?_
        · rfl
        · exact Below.refl _ _
        · exact rfl
        · trivial
      · intro V W hb hd K hK _
        have h12 : (V 45) = .bool true := hd 12 (by kernel_rfl)
        have h17 : (V 50) = .int .i64 dn := hd 17 (by kernel_rfl)
        clear hd
        by_cases hdz : dn = 0
        · have HQ1 := Lib.hid (show true = zq by rw [HZQ.out]; simp [hdz])
          have hdi : ((dn : Int) == 0) = true := by simp [hdz]
          go_wp2_with fail
          refine hK _ _ ?_ ?_ ?_ ?_
          · rfl
          · exact Below.refl _ _
          · show _ = Value.bool zq; rw [← HQ1.out]; rfl
          · trivial
        · have HQ1 := Lib.hid (show false = zq by rw [HZQ.out]; simp [hdz])
          have hdi : ((dn : Int) == 0) = false := (ne_flag (a := (dn : Int)) (b := 0) (by omega)).1
          go_wp2_with fail
          refine hK _ _ ?_ ?_ ?_ ?_
          · rfl
          · exact Below.refl _ _
          · show _ = Value.bool zq; rw [← HQ1.out]; rfl
          · trivial
      · intro V W hb hd K hK _
        have h12 : (V 45) = .bool true := hd 12 (by kernel_rfl)
        have h15 : (V 48) = .bool zq := hd 15 (by kernel_rfl)
        have h18 : (V 51) = .bool zq := hd 18 (by kernel_rfl)
        clear hd
        cases zq
        all_goals
          go_wp2_with fail
          refine hK _ _ ?_ ?_ ?_ ?_
          · rfl
          · exact Below.refl _ _
          · rfl
          · trivial
      · intro V W hb hd K hK _
        have h12 : (V 45) = .bool true := hd 12 (by kernel_rfl)
        have h19 : (V 52) = .bool true := hd 19 (by kernel_rfl)
        clear hd
        go_wp2_with fail
        refine hK _ _ ?_ ?_ ?_ ?_
        · rfl
        · exact Below.refl _ _
        · exact rfl
        · trivial
      · intro V W hb hd K hK _
        have h20 : (V 53) = .bool true := hd 20 (by kernel_rfl)
        clear hd
        go_wp2_with fail
        refine hK _ _ ?_ ?_ ?_ ?_
        · rfl
        · exact Below.refl _ _
        · exact rfl
        · trivial
      · intro V W hb hd K hK _
        have h21 : (V 54) = .bool true := hd 21 (by kernel_rfl)
        clear hd
        obtain ⟨-, s0, s1, s2, -⟩ := (HF5.out W hb).1
        go_wp2_with fail
        refine hK _ _ ?_ ?_ ?_ ?_
        · rfl
        · exact Below.refl _ _
        · exact rfl
        · trivial
      · intro V W hb hd K hK _
        have h21 : (V 54) = .bool true := hd 21 (by kernel_rfl)
        clear hd
        obtain ⟨z0, z1, z2⟩ := (HZ5.out W hb)
        go_wp2_with fail
        refine hK _ _ ?_ ?_ ?_ ?_
        · rfl
        · exact Below.refl _ _
        · exact rfl
        · trivial
      · intro V W hb hd K hK _
        have h21 : (V 54) = .bool true := hd 21 (by kernel_rfl)
        have h22 : (V 55) = .agg #[.slice p1 q1 r1, .slice p2 q2 r2, .slice p3 q3 r3] := hd 22 (by kernel_rfl)
        have h23 : (V 56) = .agg #[.int .i64 sp, .int .i64 sl, .int .i64 sw] := hd 23 (by kernel_rfl)
        clear hd
        go_wp2_with fail
        refine (HWa.out _ W (HI5.out W hb).1).mono ?_
        rintro e w1 ⟨rfl, hb1⟩
        go_wp2_with fail
        refine hK _ _ ?_ ?_ ?_ ?_
        · rfl
        · exact hb1
        · exact rfl
        · trivial
      · intro V W hb hd K hK _
        have h21 : (V 54) = .bool true := hd 21 (by kernel_rfl)
        clear hd
        go_wp2_with fail
        refine hK _ _ ?_ ?_ ?_ ?_
        · rfl
        · exact Below.refl _ _
        · exact rfl
        · trivial
      · intro V W hb hd K hK _
        have h21 : (V 54) = .bool true := hd 21 (by kernel_rfl)
        have h24 : (V 57) = .int .i64 0 := hd 24 (by kernel_rfl)
        have h25 : (V 58) = .int .i64 0 := hd 25 (by kernel_rfl)
        clear hd
        go_wp2_with fail
        refine hK _ _ ?_ ?_ ?_ ?_
        · rfl
        · exact Below.refl _ _
        · exact rfl
        · trivial
      · intro V W hb hd K hK _
        have h21 : (V 54) = .bool true := hd 21 (by kernel_rfl)
        have h26 : (V 59) = .bool true := hd 26 (by kernel_rfl)
        clear hd
        go_wp2_with fail
        refine hK _ _ ?_ ?_ ?_ ?_
        · rfl
        · exact Below.refl _ _
        · exact rfl
        · trivial
      · intro V W hb hd K hK _
        have h27 : (V 60) = .bool true := hd 27 (by kernel_rfl)
        clear hd
        go_wp2_with fail
        refine hK _ _ ?_ ?_ ?_ ?_
        · rfl
        · exact Below.refl _ _
        · exact rfl
        · trivial
      · intro V W hb hd K hK _
        have h28 : (V 61) = .bool true := hd 28 (by kernel_rfl)
        clear hd
        obtain ⟨-, s0, s1, s2, -⟩ := (HF5.out W hb).1
        go_wp2_with fail
        refine hK _ _ ?_ ?_ ?_ ?_
        · rfl
        · exact Below.refl _ _
        · exact rfl
        · trivial
      · intro V W hb hd K hK _
        have h28 : (V 61) = .bool true := hd 28 (by kernel_rfl)
        clear hd
        obtain ⟨-, s0, s1, s2, -⟩ := (HF5.out W hb).2.1
        go_wp2_with fail
        refine hK _ _ ?_ ?_ ?_ ?_
        · rfl
        · exact Below.refl _ _
        · exact rfl
        · trivial
      · intro V W hb hd K hK _
        have h28 : (V 61) = .bool true := hd 28 (by kernel_rfl)
        have h29 : (V 62) = .agg #[.slice p1 q1 r1, .slice p2 q2 r2, .slice p3 q3 r3] := hd 29 (by kernel_rfl)
        have h30 : (V 63) = .agg #[.slice p4 q4 r4, .slice p5 q5 r5, .slice p6 q6 r6] := hd 30 (by kernel_rfl)
        clear hd
        go_wp2_with fail
        refine (c_is true ⟨fun _ => rfl, fun _ => rfl⟩ (HI5.out W hb).1 HG.out (HI5.out W hb).2 HG.out).mono ?_
        rintro e w1 ⟨rfl, hb1⟩
        go_wp2_with fail
        refine hK _ _ ?_ ?_ ?_ ?_
        · rfl
        · exact hb1
        · exact rfl
        · trivial
      · intro V W hb hd K hK _
        have h28 : (V 61) = .bool true := hd 28 (by kernel_rfl)
        have h31 : (V 64) = .bool true := hd 31 (by kernel_rfl)
        clear hd
        go_wp2_with fail
        refine hK _ _ ?_ ?_ ?_ ?_
        · rfl
        · exact Below.refl _ _
        · exact rfl
        · trivial
      · intro V W hb hd K hK _
        have h32 : (V 65) = .bool true := hd 32 (by kernel_rfl)
        clear hd
        go_wp2_with fail
        refine hK _ _ ?_ ?_ ?_ ?_
        · rfl
        · exact Below.refl _ _
        · exact rfl
        · trivial
      · intro V W hb hd K hK _
        have h33 : (V 66) = .bool true := hd 33 (by kernel_rfl)
        clear hd
        go_wp2_with fail
        refine (alive10_any W (HTW5.out W hb)).mono ?_
        rintro e w1 ⟨rfl, hb1⟩
        go_wp2_with fail
        refine hK _ _ ?_ ?_ ?_ ?_
        · rfl
        · exact hb1
        · exact rfl
        · trivial
      · intro V W hb hd K hK _
        have h33 : (V 66) = .bool true := hd 33 (by kernel_rfl)
        have h34 : (V 67) = .bool true := hd 34 (by kernel_rfl)
        clear hd
        go_wp2_with fail
        refine hK _ _ ?_ ?_ ?_ ?_
        · rfl
        · exact Below.refl _ _
        · exact rfl
        · trivial
      · intro V W hb hd hap
        have h35 : (V 68) = .bool true := hd 35 (by decide)
        clear hd hap
        simp only [List.drop_succ_cons, List.drop_zero]
        have HBZ := Lib.hid (below_then HB3.out (Nat.le_refl _) (below_then H34.out (Nat.le_refl _) (below_then H45.out (Nat.le_refl _) hb)))
        clear hb
        go_wp2_with fail
        go_ret
        exact ⟨rfl, HBZ.out⟩
    · have HR := Lib.hid (show (100 * (dn : Int)) / (an : Int) = wv by rw [HWV.out, if_neg hz])
      have hp : (0 : Int) < (an : Int) := by omega
      have hdp : decide ((0 : Int) < (an : Int)) = true := decide_eq_true hp
      obtain ⟨-, s0, s1, s2, -⟩ := (HF4.out w5 H45.out).2.1
      go_wp2_with fail
      refine (c_refall (n := 40) (HI4.out w5 H45.out).2 HG.out (by decide)).mono ?_
      rintro e w6 ⟨v6, rfl, hr, hb⟩
      obtain ⟨ro6, rc6, e6⟩ := hr.len
      rw [← HLD.out.2] at e6
      subst e6
      have H46 := Lib.hid (below_then H45.out (Nat.le_refl _) hb)
      clear hr hb s0 s1 s2
      have hi : ¬ (an : Int) = 0 := by omega
      have hkf := ne_flag hi
      have hmul : IntKind.i64.wrap (100 * (dn : Int)) = 100 * (dn : Int) := IntWalk.i64_in _ (by omega)
      have hdiv : IntKind.i64.wrap ((100 * (dn : Int)) / (an : Int)) = (100 * (dn : Int)) / (an : Int) := by
        have h1 : (100 * (dn : Int)) / (an : Int) ≤ 100 * (dn : Int) := Int.ediv_le_self _ (by omega)
        have h2 : 0 ≤ (100 * (dn : Int)) / (an : Int) := Int.ediv_nonneg (by omega) (by omega)
        exact IntWalk.i64_in _ (by omega)
      have htd : (100 * (dn : Int)).tdiv (an : Int) = (100 * (dn : Int)) / (an : Int) := Int.tdiv_eq_ediv_of_nonneg (by omega)
      go_upto_region 8 with fail
      rw [HR.out]
      clear hp hdp hi hkf hmul hdiv htd
      have HZ5 := Lib.hid (fun W (h : RowKit.Below w6.heap.size w6 W) => HZ4.out W (below_then H46.out (Nat.le_refl _) h))
      have HI5 := Lib.hid (fun W (h : RowKit.Below w6.heap.size w6 W) => HI4.out W (below_then H46.out (Nat.le_refl _) h))
      have HTW5 := Lib.hid (fun W (h : RowKit.Below w6.heap.size w6 W) => HTW4.out W (below_then H46.out (Nat.le_refl _) h))
      have HF5 := Lib.hid (fun W (h : RowKit.Below w6.heap.size w6 W) => HF4.out W (below_then H46.out (Nat.le_refl _) h))
      go_wp2_with fail
      refine wp_region_told [] 36 [false, false, false, false, false, false, false, false, false, false, false, false, false, false, false, false, false, false, false, false, false, false, false, false, false, false, false, false, false, false, false, false, false, true, true, true, true, true, true, true, true, true, true, true, true, true, true, true, true, true, true, true, true, true, true, true, true, true, true, true, true, true, true, true, true, true, true, true, true]
        [sLit (.agg #[.slice p1 q1 r1, .slice p2 q2 r2, .slice p3 q3 r3]),
    sLit (.agg #[.int .i64 sp, .int .i64 sl, .int .i64 sw]),
    sOne (IsC (sx)) (fun _ _ _ h hb => h.below hb),
    sLit (.agg #[.slice p7 q7 r7, .slice p8 q8 r8, .slice p9 q9 r9]),
    sLit (.bool true),
    sLit (.bool true),
    sLit (.agg #[.slice p1 q1 r1, .slice p2 q2 r2, .slice p3 q3 r3]),
    sLit (.agg #[.int .i64 sp, .int .i64 sl, .int .i64 sw]),
    sOne (fun v W => Reads W v (ds)) (fun _ _ _ h hb => h.below hb),
    sLit (.slice do_ dn dc),
    sLit (.bool true),
    sLit (.bool true),
    sLit (.bool true),
    sLit (.agg #[.slice p1 q1 r1, .slice p2 q2 r2, .slice p3 q3 r3]),
    sLit (.agg #[.int .i64 sp, .int .i64 sl, .int .i64 sw]),
    sLit (.bool zq),
    sLit (.slice do_ dn dc),
    sLit (.int .i64 dn),
    sLit (.bool zq),
    sLit (.bool true),
    sLit (.bool true),
    sLit (.bool true),
    sLit (.agg #[.slice p1 q1 r1, .slice p2 q2 r2, .slice p3 q3 r3]),
    sLit (.agg #[.int .i64 sp, .int .i64 sl, .int .i64 sw]),
    sLit (.int .i64 wv),
    sLit (.int .i64 wv),
    sLit (.bool true),
    sLit (.bool true),
    sLit (.bool true),
    sLit (.agg #[.slice p1 q1 r1, .slice p2 q2 r2, .slice p3 q3 r3]),
    sLit (.agg #[.slice p4 q4 r4, .slice p5 q5 r5, .slice p6 q6 r6]),
    sLit (.bool true),
    sLit (.bool true),
    sLit (.bool true),
    sLit (.bool true),
    sLit (.bool true)] (by kernel_rfl) (by kernel_rfl) (by kernel_rfl) (fun F hF => ?_)
      simp only [over, overL, Nat.reduceAdd] at hF
      obtain rfl := funext hF
      clear hF
      refine ⟨⟨?_, ?_, ?_, ?_, ?_, ?_, ?_, ?_, ?_, ?_, ?_, ?_, ?_, ?_, ?_, ?_, ?_, ?_, ?_, ?_, ?_, ?_, ?_, ?_, ?_, ?_, ?_, ?_, ?_, ?_, ?_, ?_, ?_, ?_, ?_, ?_, trivial⟩, ?_⟩
      · intro V W hb hd K hK _
        clear hd
        obtain ⟨-, s0, s1, s2, -⟩ := (HF5.out W hb).1
        go_wp2_with fail
        refine hK _ _ ?_ ?_ ?_ ?_
        · rfl
        · exact Below.refl _ _
        · exact rfl
        · trivial
      · intro V W hb hd K hK _
        clear hd
        obtain ⟨z0, z1, z2⟩ := (HZ5.out W hb)
        go_wp2_with fail
        refine hK _ _ ?_ ?_ ?_ ?_
        · rfl
        · exact Below.refl _ _
        · exact rfl
        · trivial
      · intro V W hb hd K hK _
        have h0 : (V 33) = .agg #[.slice p1 q1 r1, .slice p2 q2 r2, .slice p3 q3 r3] := hd 0 (by kernel_rfl)
        have h1 : (V 34) = .agg #[.int .i64 sp, .int .i64 sl, .int .i64 sw] := hd 1 (by kernel_rfl)
        clear hd
        go_wp2_with fail
        refine (HSp.out _ W (HI5.out W hb).1).mono ?_
        rintro e w1 ⟨v1, rfl, hv1, hb1⟩
        go_wp2_with fail
        refine hK _ _ ?_ ?_ ?_ ?_
        · rfl
        · exact hb1
        · exact hv1
        · trivial
      · intro V W hb hd K hK _
        clear hd
        obtain ⟨-, s0, s1, s2, -⟩ := (HF5.out W hb).2.2
        go_wp2_with fail
        refine hK _ _ ?_ ?_ ?_ ?_
        · rfl
        · exact Below.refl _ _
        · exact rfl
        · trivial
      · intro V W hb hd K hK _
        have h2 : IsC (sx) (V 35) W := hd 2 (by kernel_rfl)
        have h3 : (V 36) = .agg #[.slice p7 q7 r7, .slice p8 q8 r8, .slice p9 q9 r9] := hd 3 (by kernel_rfl)
        clear hd
        go_wp2_with fail
        refine (c_is true ⟨fun _ => rfl, fun _ => rfl⟩ h2 HGs.out (HLs.out.below (below_then (H46.out) (Nat.le_refl _) hb)).is HGs.out).mono ?_
        rintro e w1 ⟨rfl, hb1⟩
        go_wp2_with fail
        refine hK _ _ ?_ ?_ ?_ ?_
        · rfl
        · exact hb1
        · exact rfl
        · trivial
      · intro V W hb hd K hK _
        have h4 : (V 37) = .bool true := hd 4 (by kernel_rfl)
        clear hd
        go_wp2_with fail
        refine hK _ _ ?_ ?_ ?_ ?_
        · rfl
        · exact Below.refl _ _
        · exact rfl
        · trivial
      · intro V W hb hd K hK _
        have h5 : (V 38) = .bool true := hd 5 (by kernel_rfl)
        clear hd
        obtain ⟨-, s0, s1, s2, -⟩ := (HF5.out W hb).1
        go_wp2_with fail
        refine hK _ _ ?_ ?_ ?_ ?_
        · rfl
        · exact Below.refl _ _
        · exact rfl
        · trivial
      · intro V W hb hd K hK _
        have h5 : (V 38) = .bool true := hd 5 (by kernel_rfl)
        clear hd
        obtain ⟨z0, z1, z2⟩ := (HZ5.out W hb)
        go_wp2_with fail
        refine hK _ _ ?_ ?_ ?_ ?_
        · rfl
        · exact Below.refl _ _
        · exact rfl
        · trivial
      · intro V W hb hd K hK _
        have h5 : (V 38) = .bool true := hd 5 (by kernel_rfl)
        have h6 : (V 39) = .agg #[.slice p1 q1 r1, .slice p2 q2 r2, .slice p3 q3 r3] := hd 6 (by kernel_rfl)
        have h7 : (V 40) = .agg #[.int .i64 sp, .int .i64 sl, .int .i64 sw] := hd 7 (by kernel_rfl)
        clear hd
        go_wp2_with fail
        refine (HDp.out _ W (HI5.out W hb).1).mono ?_
        rintro e w1 ⟨v1, rfl, hv1, hb1⟩
        go_wp2_with fail
        refine hK _ _ ?_ ?_ ?_ ?_
        · rfl
        · exact hb1
        · exact hv1
        · trivial
      · intro V W hb hd K hK _
        have h5 : (V 38) = .bool true := hd 5 (by kernel_rfl)
        clear hd
        go_wp2_with fail
        refine hK _ _ ?_ ?_ ?_ ?_
        · rfl
        · exact Below.refl _ _
        · exact rfl
        · trivial
      · intro V W hb hd K hK _
        have h5 : (V 38) = .bool true := hd 5 (by kernel_rfl)
        have h8 : Reads W (V 41) (ds) := hd 8 (by kernel_rfl)
        have h9 : (V 42) = .slice do_ dn dc := hd 9 (by kernel_rfl)
        clear hd
        go_wp2_with fail
        refine (c_rsame h8 (HLd.out.below (below_then (H46.out) (Nat.le_refl _) hb)) HSD.out).mono ?_
        rintro e w1 ⟨rfl, hb1⟩
        go_wp2_with fail
        refine hK _ _ ?_ ?_ ?_ ?_
        · rfl
        · exact hb1
        · exact rfl
        · trivial
      · intro V W hb hd K hK _
        have h5 : (V 38) = .bool true := hd 5 (by kernel_rfl)
        have h10 : (V 43) = .bool true := hd 10 (by kernel_rfl)
        clear hd
        go_wp2_with fail
        refine hK _ _ ?_ ?_ ?_ ?_
        · rfl
        · exact Below.refl _ _
        · exact rfl
        · trivial
      · intro V W hb hd K hK _
        have h11 : (V 44) = .bool true := hd 11 (by kernel_rfl)
        clear hd
        go_wp2_with fail
        refine hK _ _ ?_ ?_ ?_ ?_
        · rfl
        · exact Below.refl _ _
        · exact rfl
        · trivial
      · intro V W hb hd K hK _
        have h12 : (V 45) = .bool true := hd 12 (by kernel_rfl)
        clear hd
        obtain ⟨-, s0, s1, s2, -⟩ := (HF5.out W hb).1
        go_wp2_with fail
        refine hK _ _ ?_ ?_ ?_ ?_
        · rfl
        · exact Below.refl _ _
        · exact rfl
        · trivial
      · intro V W hb hd K hK _
        have h12 : (V 45) = .bool true := hd 12 (by kernel_rfl)
        clear hd
        obtain ⟨z0, z1, z2⟩ := (HZ5.out W hb)
        go_wp2_with fail
        refine hK _ _ ?_ ?_ ?_ ?_
        · rfl
        · exact Below.refl _ _
        · exact rfl
        · trivial
      · intro V W hb hd K hK _
        have h12 : (V 45) = .bool true := hd 12 (by kernel_rfl)
        have h13 : (V 46) = .agg #[.slice p1 q1 r1, .slice p2 q2 r2, .slice p3 q3 r3] := hd 13 (by kernel_rfl)
        have h14 : (V 47) = .agg #[.int .i64 sp, .int .i64 sl, .int .i64 sw] := hd 14 (by kernel_rfl)
        clear hd
        go_wp2_with fail
        refine (HZq.out _ W (HI5.out W hb).1).mono ?_
        rintro e w1 ⟨rfl, hb1⟩
        go_wp2_with fail
        refine hK _ _ ?_ ?_ ?_ ?_
        · rfl
        · exact hb1
        · exact rfl
        · trivial
      · intro V W hb hd K hK _
        have h12 : (V 45) = .bool true := hd 12 (by kernel_rfl)
        clear hd
        go_wp2_with fail
        refine hK _ _ ?_ ?_ ?_ ?_
        · rfl
        · exact Below.refl _ _
        · exact rfl
        · trivial
      · intro V W hb hd K hK _
        have h12 : (V 45) = .bool true := hd 12 (by kernel_rfl)
        have h16 : (V 49) = .slice do_ dn dc := hd 16 (by kernel_rfl)
        clear hd
        go_wp2_with fail
        refine hK _ _ ?_ ?_ ?_ ?_
        · rfl
        · exact Below.refl _ _
        · exact rfl
        · trivial
      · intro V W hb hd K hK _
        have h12 : (V 45) = .bool true := hd 12 (by kernel_rfl)
        have h17 : (V 50) = .int .i64 dn := hd 17 (by kernel_rfl)
        clear hd
        by_cases hdz : dn = 0
        · have HQ1 := Lib.hid (show true = zq by rw [HZQ.out]; simp [hdz])
          have hdi : ((dn : Int) == 0) = true := by simp [hdz]
          go_wp2_with fail
          refine hK _ _ ?_ ?_ ?_ ?_
          · rfl
          · exact Below.refl _ _
          · show _ = Value.bool zq; rw [← HQ1.out]; rfl
          · trivial
        · have HQ1 := Lib.hid (show false = zq by rw [HZQ.out]; simp [hdz])
          have hdi : ((dn : Int) == 0) = false := (ne_flag (a := (dn : Int)) (b := 0) (by omega)).1
          go_wp2_with fail
          refine hK _ _ ?_ ?_ ?_ ?_
          · rfl
          · exact Below.refl _ _
          · show _ = Value.bool zq; rw [← HQ1.out]; rfl
          · trivial
      · intro V W hb hd K hK _
        have h12 : (V 45) = .bool true := hd 12 (by kernel_rfl)
        have h15 : (V 48) = .bool zq := hd 15 (by kernel_rfl)
        have h18 : (V 51) = .bool zq := hd 18 (by kernel_rfl)
        clear hd
        cases zq
        all_goals
          go_wp2_with fail
          refine hK _ _ ?_ ?_ ?_ ?_
          · rfl
          · exact Below.refl _ _
          · rfl
          · trivial
      · intro V W hb hd K hK _
        have h12 : (V 45) = .bool true := hd 12 (by kernel_rfl)
        have h19 : (V 52) = .bool true := hd 19 (by kernel_rfl)
        clear hd
        go_wp2_with fail
        refine hK _ _ ?_ ?_ ?_ ?_
        · rfl
        · exact Below.refl _ _
        · exact rfl
        · trivial
      · intro V W hb hd K hK _
        have h20 : (V 53) = .bool true := hd 20 (by kernel_rfl)
        clear hd
        go_wp2_with fail
        refine hK _ _ ?_ ?_ ?_ ?_
        · rfl
        · exact Below.refl _ _
        · exact rfl
        · trivial
      · intro V W hb hd K hK _
        have h21 : (V 54) = .bool true := hd 21 (by kernel_rfl)
        clear hd
        obtain ⟨-, s0, s1, s2, -⟩ := (HF5.out W hb).1
        go_wp2_with fail
        refine hK _ _ ?_ ?_ ?_ ?_
        · rfl
        · exact Below.refl _ _
        · exact rfl
        · trivial
      · intro V W hb hd K hK _
        have h21 : (V 54) = .bool true := hd 21 (by kernel_rfl)
        clear hd
        obtain ⟨z0, z1, z2⟩ := (HZ5.out W hb)
        go_wp2_with fail
        refine hK _ _ ?_ ?_ ?_ ?_
        · rfl
        · exact Below.refl _ _
        · exact rfl
        · trivial
      · intro V W hb hd K hK _
        have h21 : (V 54) = .bool true := hd 21 (by kernel_rfl)
        have h22 : (V 55) = .agg #[.slice p1 q1 r1, .slice p2 q2 r2, .slice p3 q3 r3] := hd 22 (by kernel_rfl)
        have h23 : (V 56) = .agg #[.int .i64 sp, .int .i64 sl, .int .i64 sw] := hd 23 (by kernel_rfl)
        clear hd
        go_wp2_with fail
        refine (HWa.out _ W (HI5.out W hb).1).mono ?_
        rintro e w1 ⟨rfl, hb1⟩
        go_wp2_with fail
        refine hK _ _ ?_ ?_ ?_ ?_
        · rfl
        · exact hb1
        · exact rfl
        · trivial
      · intro V W hb hd K hK _
        have h21 : (V 54) = .bool true := hd 21 (by kernel_rfl)
        clear hd
        go_wp2_with fail
        refine hK _ _ ?_ ?_ ?_ ?_
        · rfl
        · exact Below.refl _ _
        · exact rfl
        · trivial
      · intro V W hb hd K hK _
        have h21 : (V 54) = .bool true := hd 21 (by kernel_rfl)
        have h24 : (V 57) = .int .i64 wv := hd 24 (by kernel_rfl)
        have h25 : (V 58) = .int .i64 wv := hd 25 (by kernel_rfl)
        clear hd
        go_wp2_with fail
        refine hK _ _ ?_ ?_ ?_ ?_
        · rfl
        · exact Below.refl _ _
        · exact rfl
        · trivial
      · intro V W hb hd K hK _
        have h21 : (V 54) = .bool true := hd 21 (by kernel_rfl)
        have h26 : (V 59) = .bool true := hd 26 (by kernel_rfl)
        clear hd
        go_wp2_with fail
        refine hK _ _ ?_ ?_ ?_ ?_
        · rfl
        · exact Below.refl _ _
        · exact rfl
        · trivial
      · intro V W hb hd K hK _
        have h27 : (V 60) = .bool true := hd 27 (by kernel_rfl)
        clear hd
        go_wp2_with fail
        refine hK _ _ ?_ ?_ ?_ ?_
        · rfl
        · exact Below.refl _ _
        · exact rfl
        · trivial
      · intro V W hb hd K hK _
        have h28 : (V 61) = .bool true := hd 28 (by kernel_rfl)
        clear hd
        obtain ⟨-, s0, s1, s2, -⟩ := (HF5.out W hb).1
        go_wp2_with fail
        refine hK _ _ ?_ ?_ ?_ ?_
        · rfl
        · exact Below.refl _ _
        · exact rfl
        · trivial
      · intro V W hb hd K hK _
        have h28 : (V 61) = .bool true := hd 28 (by kernel_rfl)
        clear hd
        obtain ⟨-, s0, s1, s2, -⟩ := (HF5.out W hb).2.1
        go_wp2_with fail
        refine hK _ _ ?_ ?_ ?_ ?_
        · rfl
        · exact Below.refl _ _
        · exact rfl
        · trivial
      · intro V W hb hd K hK _
        have h28 : (V 61) = .bool true := hd 28 (by kernel_rfl)
        have h29 : (V 62) = .agg #[.slice p1 q1 r1, .slice p2 q2 r2, .slice p3 q3 r3] := hd 29 (by kernel_rfl)
        have h30 : (V 63) = .agg #[.slice p4 q4 r4, .slice p5 q5 r5, .slice p6 q6 r6] := hd 30 (by kernel_rfl)
        clear hd
        go_wp2_with fail
        refine (c_is true ⟨fun _ => rfl, fun _ => rfl⟩ (HI5.out W hb).1 HG.out (HI5.out W hb).2 HG.out).mono ?_
        rintro e w1 ⟨rfl, hb1⟩
        go_wp2_with fail
        refine hK _ _ ?_ ?_ ?_ ?_
        · rfl
        · exact hb1
        · exact rfl
        · trivial
      · intro V W hb hd K hK _
        have h28 : (V 61) = .bool true := hd 28 (by kernel_rfl)
        have h31 : (V 64) = .bool true := hd 31 (by kernel_rfl)
        clear hd
        go_wp2_with fail
        refine hK _ _ ?_ ?_ ?_ ?_
        · rfl
        · exact Below.refl _ _
        · exact rfl
        · trivial
      · intro V W hb hd K hK _
        have h32 : (V 65) = .bool true := hd 32 (by kernel_rfl)
        clear hd
        go_wp2_with fail
        refine hK _ _ ?_ ?_ ?_ ?_
        · rfl
        · exact Below.refl _ _
        · exact rfl
        · trivial
      · intro V W hb hd K hK _
        have h33 : (V 66) = .bool true := hd 33 (by kernel_rfl)
        clear hd
        go_wp2_with fail
        refine (alive10_any W (HTW5.out W hb)).mono ?_
        rintro e w1 ⟨rfl, hb1⟩
        go_wp2_with fail
        refine hK _ _ ?_ ?_ ?_ ?_
        · rfl
        · exact hb1
        · exact rfl
        · trivial
      · intro V W hb hd K hK _
        have h33 : (V 66) = .bool true := hd 33 (by kernel_rfl)
        have h34 : (V 67) = .bool true := hd 34 (by kernel_rfl)
        clear hd
        go_wp2_with fail
        refine hK _ _ ?_ ?_ ?_ ?_
        · rfl
        · exact Below.refl _ _
        · exact rfl
        · trivial
      · intro V W hb hd hap
        have h35 : (V 68) = .bool true := hd 35 (by decide)
        clear hd hap
        simp only [List.drop_succ_cons, List.drop_zero]
        have HBZ := Lib.hid (below_then HB3.out (Nat.le_refl _) (below_then H34.out (Nat.le_refl _) (below_then H46.out (Nat.le_refl _) hb)))
        clear hb
        go_wp2_with fail
        go_ret
        exact ⟨rfl, HBZ.out⟩

end Go.Proofs.YtgcfhlleaekgfaaGreatDoor.Mut
