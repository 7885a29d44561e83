/- The walk of the law ViewSees (layer 9). PRINTED by wip/genviewlaw.py. -/
import Derived.Test.YtmfhmcegmeinnaaGreatDoorKeysAll
import Derived.Test.YtmfhmcegmeinnaaGreatDoorTold09
import Derived.Test.YtmfhmcegmeinnaaGreatDoorUniPlain
set_option linter.unusedSimpArgs false
set_option linter.unusedVariables false
namespace Go.Proofs.YtmfhmcegmeinnaaGreatDoor.Mut
open Go.RowKit Go.Sort Go.Proofs.YtmfhmcegmeinnaaGreatDoor.Ord Go.Proofs.YtmfhmcegmeinnaaGreatDoor.RegInv Go.Proofs.YtmfhmcegmeinnaaGreatDoor.Spare
set_option linter.unusedSectionVars false
variable [Inhabited Lim]

theorem see_leftV (RA : List Ro) (l : List Mu) (hl : RA.map (·.1) = l) (t phys : Int) (from_ to_ : ByteArray) : seeW (seeB ((setRo RA).map (·.1)) t from_ to_ phys) [] ((setRo RA).map (·.1)) = scanF (leftOf l) t from_ to_ phys := by
  obtain ⟨h1, h2, -⟩ := setRo_spec RA
  rw [hl] at h2
  exact see_shown l _ h1 h2 t from_ to_ phys
theorem setRo_overV {RA : List Ro} {k : Nat} (h : ∀ x ∈ RA, x.1.over.length ≤ k) : ∀ x ∈ setRo RA, x.1.over.length ≤ k := fun x hx => h x (setRo_mem RA x hx)
theorem scan_lenV {c : Con} {n : Nat} (h : Good c n) (t phys : Int) (from_ to_ : ByteArray) : (scanF c t from_ to_ phys).length ≤ n := by
  unfold scanF shownF liveF
  rw [List.length_map]
  have hl := h.okc.len
  have h0 : c.all.length = c.cells.length + (c.wipes.length + c.sibs.length) := by unfold Con.all; simp
  refine Nat.le_trans (List.length_filter_le _ _) (Nat.le_trans (List.length_filter_le _ _) ?_)
  split
  · exact Nat.le_trans (List.length_filter_le _ _) (by omega)
  · exact Nat.le_trans (List.length_filter_le _ _) (by omega)
theorem spare_tx {w : World} {base : Nat} {v : Value} {l : List ByteArray} (h : Spare w base 9 zSt v l.length (l.map Value.string)) : TxRow w v l :=
  Lst.of_owns (fun _ => rfl) (by decide) (by rw [flat_enS]; exact h.own)

set_option maxHeartbeats 16000000 in
set_option maxRecDepth 100000 in
theorem viewsees_any (v1 : Value) (A : List Ro) (t phys : Int) (fa ta : ByteArray) (w : World) (hT : Tabs w) (hA : MRow w v1 A) (zA : ∀ x ∈ A, x.1.key.size ≤ maxLen ∧ x.1.fin.size ≤ maxLen ∧ x.1.val.size ≤ maxLen) (hfa : fa.size ≤ reachBytes) :
    Calls Tryz.prog 3 #[v1, .agg #[.int .i64 t, .string fa, .string ta, .int .i64 phys]] w (RetB true w) := by
  have hc0 : fa.size + 1 ≤ 9223372036854775807 := by
    have h2 : reachBytes ≤ 9223372036854775806 := by decide
    omega
  have HC1 := Lib.hid (show ¬ (fa.size + (⟨#[0]⟩ : ByteArray).size > 9223372036854775807) from by have h1 : (⟨#[0]⟩ : ByteArray).size = 1 := rfl; omega)
  have HC2 := Lib.hid (show ¬ (9223372036854775807 < fa.size + 1) from by omega)
  have HC3 := Lib.hid (show (fa.size + 1 ≤ 9223372036854775807) from hc0)
  clear hc0
  obtain ⟨F0, hF0⟩ : ∃ F0, F0 = fa ++ (⟨#[0]⟩ : ByteArray) := ⟨_, rfl⟩
  have HF0 := Lib.hid hF0
  have HGa := Lib.hid (fun (W : World) (hW : RowKit.Below w.heap.size w W) => great_any v1 A 40 W (hA.below hW) (by decide) zA)
  obtain ⟨ga, hga⟩ : ∃ q, q = greatF (A.map (·.1)) 40 := ⟨_, rfl⟩
  rw [← hga] at HGa
  have HVA := Lib.hid hA
  obtain ⟨ao, ac, rfl, -, -⟩ := hA.form
  obtain ⟨na, hna⟩ : ∃ k, k = A.length := ⟨_, rfl⟩
  rw [← hna] at HGa HVA ⊢
  have HNA := Lib.hid hna
  have HT := Lib.hid hT
  have HGG := Lib.hid hga
  clear hT hA zA hga hna hF0 hfa
  obtain ⟨W0, hW0⟩ : ∃ W0, W0 = w.alloc (.cells #[.int .i64 t, .string fa, .string ta, .int .i64 phys] 25) := ⟨_, rfl⟩
  have z0 : W0.cell? ⟨w.heap.size, 0, none⟩ = some (.int .i64 t) := by rw [hW0]; go_simp
  have z1 : W0.cell? ⟨w.heap.size, 1, none⟩ = some (.string fa) := by rw [hW0]; go_simp
  have z2 : W0.cell? ⟨w.heap.size, 2, none⟩ = some (.string ta) := by rw [hW0]; go_simp
  have z3 : W0.cell? ⟨w.heap.size, 3, none⟩ = some (.int .i64 phys) := by rw [hW0]; go_simp
  have hs0 : w.heap.size < W0.heap.size := by rw [hW0]; simp
  have HB0 := Lib.hid (show RowKit.Below w.heap.size w W0 by rw [hW0]; exact (Below.refl _ _).alloc (Nat.le_refl _) _)
  obtain ⟨n0, hn0⟩ : ∃ n, n = w.heap.size := ⟨_, rfl⟩
  have HZ := Lib.hid (fun W (h : RowKit.Below W0.heap.size W0 W) => show W.cell? ⟨n0, 0, none⟩ = some (.int .i64 t) ∧ W.cell? ⟨n0, 1, none⟩ = some (.string fa) ∧ W.cell? ⟨n0, 2, none⟩ = some (.string ta) ∧ W.cell? ⟨n0, 3, none⟩ = some (.int .i64 phys) from by
    rw [hn0]
    exact ⟨(h.cell (p := ⟨w.heap.size, 0, none⟩) hs0).trans z0, (h.cell (p := ⟨w.heap.size, 1, none⟩) hs0).trans z1, (h.cell (p := ⟨w.heap.size, 2, none⟩) hs0).trans z2, (h.cell (p := ⟨w.heap.size, 3, none⟩) hs0).trans z3⟩)
  have HW0 := Lib.hid hW0
  have HN0 := Lib.hid (And.intro hn0 hs0)
  clear hW0 z0 z1 z2 z3 hn0 hs0
  go_enter Tryz.func3, Tryz.ntmps3
  go_upto_region 1 with fail
  rw [← HW0.out, ← HN0.out.1]
  clear HW0
  go_wp2_with fail
  refine (HGa.out _ HB0.out).mono ?_
  rintro e w1 ⟨rfl, rfl⟩
  cases ga
  case true =>
    go_wp2_with fail
    go_ret
    exact ⟨rfl, HB0.out⟩
  obtain ⟨lA, sA⟩ := great_small HGG.out.symm
  obtain ⟨la, hla⟩ : ∃ l, l = A.map (·.1) := ⟨_, rfl⟩
  rw [← hla] at lA sA
  have HLA := Lib.hid hla
  obtain ⟨x, hx⟩ : ∃ x, x = leftOf la := ⟨_, rfl⟩
  have HO := Lib.hid (show Calls Tryz.prog 10 #[.slice ao na ac] W0 (RetC x W0) from by
    rw [hx]
    exact c_of (HT.out.below HB0.out) ⟨A, HLA.out.symm, HVA.out.below HB0.out⟩ (by omega) sA)
  have HG := Lib.hid (show Good x 40 from by rw [hx]; exact (leftOf_good la).more lA)
  have HSM := Lib.hid (show ∀ y ∈ A, Small y.1 from fun y hy => sA y.1 (by rw [HLA.out]; exact List.mem_map.2 ⟨y, hy, rfl⟩))
  have HNL := Lib.hid (show A.length ≤ 40 from by have := lA; rw [HLA.out, List.length_map] at this; exact this)
  obtain ⟨L, hL⟩ : ∃ L, L = scanF x t fa ta phys := ⟨_, rfl⟩
  obtain ⟨G, hG⟩ : ∃ G, G = getF x t fa phys := ⟨_, rfl⟩
  obtain ⟨E, hE⟩ : ∃ E, E = scanF x t ⟨#[]⟩ ⟨#[255, 255]⟩ phys := ⟨_, rfl⟩
  have HLL := Lib.hid (show L.length ≤ 40 from by rw [hL]; exact scan_lenV HG.out _ _ _ _)
  have HEL := Lib.hid (show E.length ≤ 40 from by rw [hE]; exact scan_lenV HG.out _ _ _ _)
  have HGL := Lib.hid (show G = scanF x t fa F0 phys from by rw [hG, get_see, HF0.out]; rfl)
  have HGLL := Lib.hid (show G.length ≤ 40 from by rw [HGL.out]; exact scan_lenV HG.out _ _ _ _)
  have HEK := Lib.hid (show E = (shownF x t phys).map rwOf from by rw [hE]; unfold scanF; exact congrArg _ (shown_every HG.out t phys))
  have HSEE := Lib.hid (fun (v : Value) (W : World) (f g : ByteArray) (hv : MRow W v (setRo A)) => show Calls Tryz.prog 12 #[v, .int .i64 t, .string f, .string g, .int .i64 phys] W (RowW W (scanF x t f g phys)) from by
    rw [hx, ← see_leftV A la HLA.out.symm]
    exact see09_any v (setRo A) t f g phys W hv (setRo_overV fun y hy => (HSM.out y hy).over) (by have := (setRo_spec A).2.2; have := HNL.out; omega))
  have HSC := Lib.hid (fun (v : Value) (W : World) (hv : IsC x v W) => show Calls Tryz.prog 14 #[v, .int .i64 t, .string fa, .string ta, .int .i64 phys] W (RowW W L) from by rw [hL]; exact scan_any v x 40 t phys fa ta W hv HG.out (by decide))
  have HGE := Lib.hid (fun (v : Value) (W : World) (hv : IsC x v W) => show Calls Tryz.prog 15 #[v, .int .i64 t, .string fa, .int .i64 phys] W (RowW W G) from by rw [hG]; exact get_any v x 40 t phys fa W hv HG.out (by decide))
  have HS1 := Lib.hid (fun (v : Value) (W : World) (hv : MRow W v (setRo A)) => show Calls Tryz.prog 12 #[v, .int .i64 t, .string fa, .string ta, .int .i64 phys] W (RowW W L) from by rw [hL]; exact HSEE.out v W fa ta hv)
  have HS2 := Lib.hid (fun (v : Value) (W : World) (hv : MRow W v (setRo A)) => show Calls Tryz.prog 12 #[v, .int .i64 t, .string fa, .string F0, .int .i64 phys] W (RowW W G) from by rw [HGL.out]; exact HSEE.out v W fa F0 hv)
  have HS3 := Lib.hid (fun (v : Value) (W : World) (hv : MRow W v (setRo A)) => show Calls Tryz.prog 12 #[v, .int .i64 t, .string ⟨#[]⟩, .string ⟨#[255, 255]⟩, .int .i64 phys] W (RowW W E) from by rw [hE]; exact HSEE.out v W _ _ hv)
  have HEQ := Lib.hid (fun (l : List Rw) => show eqWs l l = true from (eqWs_iff l l).2 rfl)
  clear lA sA hla hx hL hG hE HGa HGG
  go_wp2_with fail
  refine HO.out.mono ?_
  rintro e w1 ⟨vv, rfl, hc, hb1⟩
  obtain ⟨p1, q1, r1, p2, q2, r2, p3, q3, r3, rfl, hl⟩ := hc.form
  have HC := Lib.hid hl
  have HB1 := Lib.hid hb1
  clear hc hl hb1
  go_upto_region 4 with fail
  obtain ⟨W1, hW⟩ : ∃ W, W = w1.alloc (.cells #[.slice p1 q1 r1, .slice p2 q2 r2, .slice p3 q3 r3] 28) := ⟨_, rfl⟩
  have hb2 : RowKit.Below w1.heap.size w1 W1 := by rw [hW]; exact (Below.refl _ _).alloc (Nat.le_refl _) _
  have hp : C3 W1 w1.heap.size (.slice p1 q1 r1) (.slice p2 q2 r2) (.slice p3 q3 r3) := by rw [hW]; exact C3.new _ _ _ _
  rw [← hW]
  obtain ⟨k5, hk5⟩ : ∃ n, n = w1.heap.size := ⟨_, rfl⟩
  rw [← hk5] at hp ⊢
  have HL1 := Lib.hid (HC.out.below hb2)
  have HP1 := Lib.hid hp
  have HBa := Lib.hid (below_then HB1.out (Nat.le_refl _) hb2)
  clear hW hb2 hp hk5 HC HB1
  go_wp2_with fail
  refine (right09_any (.slice ao na ac) A W1 (HT.out.below (below_then HB0.out (Nat.le_refl _) HBa.out)) (HVA.out.below (below_then HB0.out (Nat.le_refl _) HBa.out)) HSM.out (by have := HNL.out; omega)).mono ?_
  rintro e w2 ⟨v2, rfl, hr, hb⟩
  obtain ⟨so, sc, rfl, -, -⟩ := hr.form
  obtain ⟨ns, hns⟩ : ∃ k, k = (setRo A).length := ⟨_, rfl⟩
  rw [← hns] at hr ⊢
  have HR2 := Lib.hid hr
  have HL2 := Lib.hid (HL1.out.below hb)
  have HP2 := Lib.hid (HP1.out.below hb)
  have HB2 := Lib.hid (below_then HBa.out (Nat.le_refl _) hb)
  clear hr hb hns HL1 HP1 HBa
  obtain ⟨z0, z1, z2, z3⟩ := HZ.out w2 HB2.out
  go_wp2_with fail
  refine (HS1.out _ w2 HR2.out).mono ?_
  rintro e w3 ⟨v3, rfl, hr, hb⟩
  obtain ⟨lo, lc, rfl, -, -⟩ := Lst.form hr
  obtain ⟨nl, hnl⟩ : ∃ k, k = L.length := ⟨_, rfl⟩
  rw [← hnl] at hr ⊢
  have HW3 := Lib.hid (show WRow w3 (.slice lo nl lc) L from hr)
  have HR3 := Lib.hid (HR2.out.below hb)
  have HL3 := Lib.hid (HL2.out.below hb)
  have HP3 := Lib.hid (HP2.out.below hb)
  have HB3 := Lib.hid (below_then HB2.out (Nat.le_refl _) hb)
  have HZ3 := Lib.hid (fun W (h : RowKit.Below w3.heap.size w3 W) => HZ.out W (below_then HB3.out (Nat.le_refl _) h))
  clear hr hb hnl HR2 HL2 HP2 HB2 z0 z1 z2 z3
  go_wp2_with fail
  refine wp_region_told [] 32 [false, false, false, false, false, false, false, false, false, false, false, false, false, false, false, false, false, false, false, false, false, false, false, false, false, false, false, true, true, true, true, true, true, true, true, true, true, true, true, true, true, true, true, true, true, true, true, true, true, true, true, true, true, true, true, true, true, true, true, false, false, false, false, false, false, false, false, false, false, false, false, false, false, false, false, false, false, false, false, false, false, false, false, false, false, false, false, false, false, false]
    [sLit (.agg #[.slice p1 q1 r1, .slice p2 q2 r2, .slice p3 q3 r3]),
    sLit (.int .i64 t),
    sLit (.pointer (some ⟨n0, 1, none⟩)),
    sLit (.string fa),
    sLit (.pointer (some ⟨n0, 2, none⟩)),
    sLit (.string ta),
    sLit (.pointer (some ⟨n0, 3, none⟩)),
    sLit (.int .i64 phys),
    sOne (fun v W => WRow W v L) (fun _ _ _ h hb => h.below hb),
    sLit (.slice lo nl lc),
    sLit (.bool true),
    sLit (.bool false),
    sLit (.bool false),
    sLit (.agg #[.slice p1 q1 r1, .slice p2 q2 r2, .slice p3 q3 r3]),
    sLit (.int .i64 t),
    sLit (.pointer (some ⟨n0, 1, none⟩)),
    sLit (.string fa),
    sLit (.pointer (some ⟨n0, 3, none⟩)),
    sLit (.int .i64 phys),
    sOne (fun v W => WRow W v G) (fun _ _ _ h hb => h.below hb),
    sLit (.slice so ns sc),
    sLit (.int .i64 t),
    sLit (.pointer (some ⟨n0, 1, none⟩)),
    sLit (.string fa),
    sLit (.pointer (some ⟨n0, 1, none⟩)),
    sLit (.string fa),
    sLit (.string F0),
    sLit (.pointer (some ⟨n0, 3, none⟩)),
    sLit (.int .i64 phys),
    sOne (fun v W => WRow W v G) (fun _ _ _ h hb => h.below hb),
    sLit (.bool true),
    sLit (.bool false)] (by kernel_rfl) (by kernel_rfl) (by kernel_rfl) (fun F hF => ?_)
  simp only [over, overL, Nat.reduceAdd] at hF
  obtain rfl := funext hF
  clear hF
  refine ⟨⟨?_, ?_, ?_, ?_, ?_, ?_, ?_, ?_, ?_, ?_, ?_, ?_, ?_, ?_, ?_, ?_, ?_, ?_, ?_, ?_, ?_, ?_, ?_, ?_, ?_, ?_, ?_, ?_, ?_, ?_, ?_, ?_, trivial⟩, ?_⟩
  · intro V W hb hd K hK _
    clear hd
    obtain ⟨-, s0, s1, s2, -⟩ := (HP3.out.below hb)
    go_wp2_with fail
    refine hK _ _ ?_ ?_ ?_ ?_
    · rfl
    · exact Below.refl _ _
    · exact rfl
    · trivial
  · intro V W hb hd K hK _
    clear hd
    go_wp2_with fail
    refine hK _ _ ?_ ?_ ?_ ?_
    · rfl
    · exact Below.refl _ _
    · exact rfl
    · trivial
  · intro V W hb hd K hK _
    clear hd
    go_wp2_with fail
    refine hK _ _ ?_ ?_ ?_ ?_
    · rfl
    · exact Below.refl _ _
    · exact rfl
    · trivial
  · intro V W hb hd K hK _
    have h2 : (V 29) = .pointer (some ⟨n0, 1, none⟩) := hd 2 (by kernel_rfl)
    clear hd
    obtain ⟨z0, z1, z2, z3⟩ := HZ3.out W hb
    go_wp2_with fail
    refine hK _ _ ?_ ?_ ?_ ?_
    · rfl
    · exact Below.refl _ _
    · exact rfl
    · trivial
  · intro V W hb hd K hK _
    clear hd
    go_wp2_with fail
    refine hK _ _ ?_ ?_ ?_ ?_
    · rfl
    · exact Below.refl _ _
    · exact rfl
    · trivial
  · intro V W hb hd K hK _
    have h4 : (V 31) = .pointer (some ⟨n0, 2, none⟩) := hd 4 (by kernel_rfl)
    clear hd
    obtain ⟨z0, z1, z2, z3⟩ := HZ3.out W hb
    go_wp2_with fail
    refine hK _ _ ?_ ?_ ?_ ?_
    · rfl
    · exact Below.refl _ _
    · exact rfl
    · trivial
  · intro V W hb hd K hK _
    clear hd
    go_wp2_with fail
    refine hK _ _ ?_ ?_ ?_ ?_
    · rfl
    · exact Below.refl _ _
    · exact rfl
    · trivial
  · intro V W hb hd K hK _
    have h6 : (V 33) = .pointer (some ⟨n0, 3, none⟩) := hd 6 (by kernel_rfl)
    clear hd
    obtain ⟨z0, z1, z2, z3⟩ := HZ3.out W hb
    go_wp2_with fail
    refine hK _ _ ?_ ?_ ?_ ?_
    · rfl
    · exact Below.refl _ _
    · exact rfl
    · trivial
  · intro V W hb hd K hK _
    have h0 : (V 27) = .agg #[.slice p1 q1 r1, .slice p2 q2 r2, .slice p3 q3 r3] := hd 0 (by kernel_rfl)
    have h1 : (V 28) = .int .i64 t := hd 1 (by kernel_rfl)
    have h3 : (V 30) = .string fa := hd 3 (by kernel_rfl)
    have h5 : (V 32) = .string ta := hd 5 (by kernel_rfl)
    have h7 : (V 34) = .int .i64 phys := hd 7 (by kernel_rfl)
    clear hd
    go_wp2_with fail
    refine (HSC.out _ W (HL3.out.below hb).is).mono ?_
    rintro e w1 ⟨v1, rfl, hv1, hb1⟩
    go_wp2_with fail
    refine hK _ _ ?_ ?_ ?_ ?_
    · rfl
    · exact hb1
    · exact hv1
    · trivial
  · intro V W hb hd K hK _
    clear hd
    go_wp2_with fail
    refine hK _ _ ?_ ?_ ?_ ?_
    · rfl
    · exact Below.refl _ _
    · exact rfl
    · trivial
  · intro V W hb hd K hK _
    have h8 : WRow W (V 35) L := hd 8 (by kernel_rfl)
    have h9 : (V 36) = .slice lo nl lc := hd 9 (by kernel_rfl)
    clear hd
    go_wp2_with fail
    refine ((by have h := same09_any _ _ L L W h8 (HW3.out.below hb) (by have := HLL.out; omega) (by have := HLL.out; omega); rw [HEQ.out] at h; exact h : Calls _ _ _ W (RetB true W))).mono ?_
    rintro e w1 ⟨rfl, hb1⟩
    go_wp2_with fail
    refine hK _ _ ?_ ?_ ?_ ?_
    · rfl
    · exact hb1
    · exact rfl
    · trivial
  · intro V W hb hd K hK _
    have h10 : (V 37) = .bool true := hd 10 (by kernel_rfl)
    clear hd
    go_wp2_with fail
    refine hK _ _ ?_ ?_ ?_ ?_
    · rfl
    · exact Below.refl _ _
    · exact rfl
    · trivial
  · intro V W hb hd K hK _
    have h11 : (V 38) = .bool false := hd 11 (by kernel_rfl)
    clear hd
    go_wp2_with fail
    refine hK _ _ ?_ ?_ ?_ ?_
    · rfl
    · exact Below.refl _ _
    · exact rfl
    · trivial
  · intro V W hb hd K hK _
    have h12 : (V 39) = .bool false := hd 12 (by kernel_rfl)
    clear hd
    obtain ⟨-, s0, s1, s2, -⟩ := (HP3.out.below hb)
    go_wp2_with fail
    refine hK _ _ ?_ ?_ ?_ ?_
    · rfl
    · exact Below.refl _ _
    · exact rfl
    · trivial
  · intro V W hb hd K hK _
    have h12 : (V 39) = .bool false := hd 12 (by kernel_rfl)
    clear hd
    go_wp2_with fail
    refine hK _ _ ?_ ?_ ?_ ?_
    · rfl
    · exact Below.refl _ _
    · exact rfl
    · trivial
  · intro V W hb hd K hK _
    have h12 : (V 39) = .bool false := hd 12 (by kernel_rfl)
    clear hd
    go_wp2_with fail
    refine hK _ _ ?_ ?_ ?_ ?_
    · rfl
    · exact Below.refl _ _
    · exact rfl
    · trivial
  · intro V W hb hd K hK _
    have h12 : (V 39) = .bool false := hd 12 (by kernel_rfl)
    have h15 : (V 42) = .pointer (some ⟨n0, 1, none⟩) := hd 15 (by kernel_rfl)
    clear hd
    obtain ⟨z0, z1, z2, z3⟩ := HZ3.out W hb
    go_wp2_with fail
    refine hK _ _ ?_ ?_ ?_ ?_
    · rfl
    · exact Below.refl _ _
    · exact rfl
    · trivial
  · intro V W hb hd K hK _
    have h12 : (V 39) = .bool false := hd 12 (by kernel_rfl)
    clear hd
    go_wp2_with fail
    refine hK _ _ ?_ ?_ ?_ ?_
    · rfl
    · exact Below.refl _ _
    · exact rfl
    · trivial
  · intro V W hb hd K hK _
    have h12 : (V 39) = .bool false := hd 12 (by kernel_rfl)
    have h17 : (V 44) = .pointer (some ⟨n0, 3, none⟩) := hd 17 (by kernel_rfl)
    clear hd
    obtain ⟨z0, z1, z2, z3⟩ := HZ3.out W hb
    go_wp2_with fail
    refine hK _ _ ?_ ?_ ?_ ?_
    · rfl
    · exact Below.refl _ _
    · exact rfl
    · trivial
  · intro V W hb hd K hK _
    have h12 : (V 39) = .bool false := hd 12 (by kernel_rfl)
    have h13 : (V 40) = .agg #[.slice p1 q1 r1, .slice p2 q2 r2, .slice p3 q3 r3] := hd 13 (by kernel_rfl)
    have h14 : (V 41) = .int .i64 t := hd 14 (by kernel_rfl)
    have h16 : (V 43) = .string fa := hd 16 (by kernel_rfl)
    have h18 : (V 45) = .int .i64 phys := hd 18 (by kernel_rfl)
    clear hd
    go_wp2_with fail
    refine (HGE.out _ W (HL3.out.below hb).is).mono ?_
    rintro e w1 ⟨v1, rfl, hv1, hb1⟩
    go_wp2_with fail
    refine hK _ _ ?_ ?_ ?_ ?_
    · rfl
    · exact hb1
    · exact hv1
    · trivial
  · intro V W hb hd K hK _
    have h12 : (V 39) = .bool false := hd 12 (by kernel_rfl)
    clear hd
    go_wp2_with fail
    refine hK _ _ ?_ ?_ ?_ ?_
    · rfl
    · exact Below.refl _ _
    · exact rfl
    · trivial
  · intro V W hb hd K hK _
    have h12 : (V 39) = .bool false := hd 12 (by kernel_rfl)
    clear hd
    go_wp2_with fail
    refine hK _ _ ?_ ?_ ?_ ?_
    · rfl
    · exact Below.refl _ _
    · exact rfl
    · trivial
  · intro V W hb hd K hK _
    have h12 : (V 39) = .bool false := hd 12 (by kernel_rfl)
    clear hd
    go_wp2_with fail
    refine hK _ _ ?_ ?_ ?_ ?_
    · rfl
    · exact Below.refl _ _
    · exact rfl
    · trivial
  · intro V W hb hd K hK _
    have h12 : (V 39) = .bool false := hd 12 (by kernel_rfl)
    have h22 : (V 49) = .pointer (some ⟨n0, 1, none⟩) := hd 22 (by kernel_rfl)
    clear hd
    obtain ⟨z0, z1, z2, z3⟩ := HZ3.out W hb
    go_wp2_with fail
    refine hK _ _ ?_ ?_ ?_ ?_
    · rfl
    · exact Below.refl _ _
    · exact rfl
    · trivial
  · intro V W hb hd K hK _
    have h12 : (V 39) = .bool false := hd 12 (by kernel_rfl)
    clear hd
    go_wp2_with fail
    refine hK _ _ ?_ ?_ ?_ ?_
    · rfl
    · exact Below.refl _ _
    · exact rfl
    · trivial
  · intro V W hb hd K hK _
    have h12 : (V 39) = .bool false := hd 12 (by kernel_rfl)
    have h24 : (V 51) = .pointer (some ⟨n0, 1, none⟩) := hd 24 (by kernel_rfl)
    clear hd
    obtain ⟨z0, z1, z2, z3⟩ := HZ3.out W hb
    go_wp2_with fail
    refine hK _ _ ?_ ?_ ?_ ?_
    · rfl
    · exact Below.refl _ _
    · exact rfl
    · trivial
  · intro V W hb hd K hK _
    have h12 : (V 39) = .bool false := hd 12 (by kernel_rfl)
    have h25 : (V 52) = .string fa := hd 25 (by kernel_rfl)
    clear hd
    have hc1 := HC1.out
    have hc2 := HC2.out
    have hc3 := HC3.out
    go_wp2_with fail
    refine hK _ _ ?_ ?_ ?_ ?_
    · rfl
    · exact Below.refl _ _
    · exact congrArg Value.string HF0.out.symm
    · trivial
  · intro V W hb hd K hK _
    have h12 : (V 39) = .bool false := hd 12 (by kernel_rfl)
    clear hd
    go_wp2_with fail
    refine hK _ _ ?_ ?_ ?_ ?_
    · rfl
    · exact Below.refl _ _
    · exact rfl
    · trivial
  · intro V W hb hd K hK _
    have h12 : (V 39) = .bool false := hd 12 (by kernel_rfl)
    have h27 : (V 54) = .pointer (some ⟨n0, 3, none⟩) := hd 27 (by kernel_rfl)
    clear hd
    obtain ⟨z0, z1, z2, z3⟩ := HZ3.out W hb
    go_wp2_with fail
    refine hK _ _ ?_ ?_ ?_ ?_
    · rfl
    · exact Below.refl _ _
    · exact rfl
    · trivial
  · intro V W hb hd K hK _
    have h12 : (V 39) = .bool false := hd 12 (by kernel_rfl)
    have h20 : (V 47) = .slice so ns sc := hd 20 (by kernel_rfl)
    have h21 : (V 48) = .int .i64 t := hd 21 (by kernel_rfl)
    have h23 : (V 50) = .string fa := hd 23 (by kernel_rfl)
    have h26 : (V 53) = .string F0 := hd 26 (by kernel_rfl)
    have h28 : (V 55) = .int .i64 phys := hd 28 (by kernel_rfl)
    clear hd
    go_wp2_with fail
    refine (HS2.out _ W (HR3.out.below hb)).mono ?_
    rintro e w1 ⟨v1, rfl, hv1, hb1⟩
    go_wp2_with fail
    refine hK _ _ ?_ ?_ ?_ ?_
    · rfl
    · exact hb1
    · exact hv1
    · trivial
  · intro V W hb hd K hK _
    have h12 : (V 39) = .bool false := hd 12 (by kernel_rfl)
    have h19 : WRow W (V 46) G := hd 19 (by kernel_rfl)
    have h29 : WRow W (V 56) G := hd 29 (by kernel_rfl)
    clear hd
    go_wp2_with fail
    refine ((by have h := same09_any _ _ G G W h19 h29 (by have := HGLL.out; omega) (by have := HGLL.out; omega); rw [HEQ.out] at h; exact h : Calls _ _ _ W (RetB true W))).mono ?_
    rintro e w1 ⟨rfl, hb1⟩
    go_wp2_with fail
    refine hK _ _ ?_ ?_ ?_ ?_
    · rfl
    · exact hb1
    · exact rfl
    · trivial
  · intro V W hb hd K hK _
    have h12 : (V 39) = .bool false := hd 12 (by kernel_rfl)
    have h30 : (V 57) = .bool true := hd 30 (by kernel_rfl)
    clear hd
    go_wp2_with fail
    refine hK _ _ ?_ ?_ ?_ ?_
    · rfl
    · exact Below.refl _ _
    · exact rfl
    · trivial
  · intro V W hb hd hap
    have h12 : (V 39) = .bool false := hd 12 (by decide)
    have h31 : (V 58) = .bool false := hd 31 (by decide)
    clear hd hap
    simp only [List.drop_succ_cons, List.drop_zero]
    obtain ⟨z0, z1, z2, z3⟩ := HZ3.out W hb
    have HR4 := Lib.hid (HR3.out.below hb)
    have HW4 := Lib.hid (HW3.out.below hb)
    have HL4 := Lib.hid (HL3.out.below hb)
    have HP4 := Lib.hid (HP3.out.below hb)
    have HB4 := Lib.hid (below_then HB3.out (Nat.le_refl _) hb)
    clear hb
    go_wp2_with fail
    refine (HS3.out _ W HR4.out).mono ?_
    rintro e w5 ⟨v5, rfl, hr, hb⟩
    obtain ⟨eo, ec, rfl, -, -⟩ := Lst.form hr
    obtain ⟨ne, hne⟩ : ∃ k, k = E.length := ⟨_, rfl⟩
    rw [← hne] at hr ⊢
    have HE5 := Lib.hid (show WRow w5 (.slice eo ne ec) E from hr)
    have HW5 := Lib.hid (HW4.out.below hb)
    have HL5 := Lib.hid (HL4.out.below hb)
    have HP5 := Lib.hid (HP4.out.below hb)
    have HB5 := Lib.hid (below_then HB4.out (Nat.le_refl _) hb)
    clear hr hb hne HW4 HL4 HP4 HB4 z0 z1 z2 z3 h12 h31
    obtain ⟨z0, z1, z2, z3⟩ := HZ.out w5 HB5.out
    obtain ⟨-, s0, s1, s2, -⟩ := HP5.out
    go_wp2_with fail
    refine (lawkeys_any _ x 40 t phys w5 HL5.out.is HG.out (by decide)).mono ?_
    rintro e w6 ⟨v6, rfl, hr, hb⟩
    rw [← HEK.out] at hr
    obtain ⟨K, hK⟩ : ∃ K, K = toldG none E := ⟨_, rfl⟩
    rw [← hK] at hr
    have HKE := Lib.hid hK
    have HKL := Lib.hid (show K.length ≤ 40 from by rw [hK]; exact Nat.le_trans (toldG_len E none) HEL.out)
    obtain ⟨ko, kc, rfl, -, -⟩ := Lst.form hr
    have HK6 := Lib.hid hr
    have HE6 := Lib.hid (HE5.out.below hb)
    have HW6 := Lib.hid (HW5.out.below hb)
    have HB6 := Lib.hid (below_then HB5.out (Nat.le_refl _) hb)
    clear hr hb hK HE5 HW5 HB5 z0 z1 z2 z3 s0 s1 s2
    go_wp2_with fail
    refine (told09_any (.slice eo ne ec) E w6 HE6.out (by have := HEL.out; omega)).mono ?_
    rintro e w7 ⟨v7, rfl, hs7, hb⟩
    rw [← HKE.out] at hs7
    have hr := spare_tx hs7
    obtain ⟨uo, uc, rfl, -, -⟩ := Lst.form hr
    have HU7 := Lib.hid hr
    have HK7 := Lib.hid (Lst.below HK6.out hb)
    have HE7 := Lib.hid (HE6.out.below hb)
    have HW7 := Lib.hid (HW6.out.below hb)
    have HB7 := Lib.hid (below_then HB6.out (Nat.le_refl _) hb)
    clear hr hb hs7 HE6 HW6 HB6 HK6
    go_wp2_with fail
    refine (equalS_lit true ko uo kc uc K K w7 (eqTx_self K) HK7.out HU7.out (by have := HKL.out; omega) (by have := HKL.out; omega)).mono ?_
    rintro e w8 ⟨rfl, hb⟩
    have HE8 := Lib.hid (HE7.out.below hb)
    have HW8 := Lib.hid (HW7.out.below hb)
    have HB8 := Lib.hid (below_then HB7.out (Nat.le_refl _) hb)
    clear hb HE7 HW7 HB7 HK7 HU7
    have HVS := Lib.hid (fun W (h : WRow W (.slice lo nl lc) L) => show Calls Tryz.prog 19 #[.slice lo nl lc, .slice lo nl lc] W (RetB true W) from by
      have h1 := viewsame_any _ _ L L W h h (by have := HLL.out; omega) (by have := HLL.out; omega)
      rw [HEQ.out] at h1
      exact h1)
    obtain ⟨q, hq⟩ : ∃ q, q = eqWs L E := ⟨_, rfl⟩
    have HVE := Lib.hid (fun W (h : WRow W (.slice lo nl lc) L) (g : WRow W (.slice eo ne ec) E) => show Calls Tryz.prog 19 #[.slice lo nl lc, .slice eo ne ec] W (RetB q W) from by
      rw [hq]
      exact viewsame_any _ _ L E W h g (by have := HLL.out; omega) (by have := HEL.out; omega))
    have HSE := Lib.hid (fun W (h : WRow W (.slice lo nl lc) L) (g : WRow W (.slice eo ne ec) E) => show Calls Tryz.prog 13 #[.slice lo nl lc, .slice eo ne ec] W (RetB q W) from by
      rw [hq]
      exact same09_any _ _ L E W h g (by have := HLL.out; omega) (by have := HEL.out; omega))
    clear hq
    go_wp2_with fail
    refine (HVS.out w8 HW8.out).mono ?_
    rintro e w9 ⟨rfl, hb⟩
    have HE9 := Lib.hid (HE8.out.below hb)
    have HW9 := Lib.hid (HW8.out.below hb)
    have HB9 := Lib.hid (below_then HB8.out (Nat.le_refl _) hb)
    clear hb HE8 HW8 HB8
    go_wp2_with fail
    refine (HVE.out w9 HW9.out HE9.out).mono ?_
    rintro e w10 ⟨rfl, hb⟩
    have HE10 := Lib.hid (HE9.out.below hb)
    have HW10 := Lib.hid (HW9.out.below hb)
    have HB10 := Lib.hid (below_then HB9.out (Nat.le_refl _) hb)
    clear hb HE9 HW9 HB9
    go_wp2_with fail
    refine (HSE.out w10 HW10.out HE10.out).mono ?_
    rintro e w11 ⟨rfl, hb⟩
    have HB11 := Lib.hid (below_then HB10.out (Nat.le_refl _) hb)
    clear hb HE10 HW10 HB10
    cases q
    all_goals
      go_wp2_with fail
      refine (alive09_any w11 (HT.out.below (below_then HB0.out (Nat.le_refl _) HB11.out))).mono ?_
      rintro e w12 ⟨rfl, hb⟩
      have HB12 := Lib.hid (below_then HB0.out (Nat.le_refl _) (below_then HB11.out (Nat.le_refl _) hb))
      clear hb
      go_wp2_with fail
      go_ret
      exact ⟨rfl, HB12.out⟩
end Go.Proofs.YtmfhmcegmeinnaaGreatDoor.Mut
