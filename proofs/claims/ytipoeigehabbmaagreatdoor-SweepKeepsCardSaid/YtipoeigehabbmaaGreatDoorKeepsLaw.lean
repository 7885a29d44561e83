/- The walk of the law SweepKeeps (layer 10): nothing rises. PRINTED by wip/genkeeps.py. -/
import Derived.Test.YtipoeigehabbmaaGreatDoorScan
import Derived.Test.YtipoeigehabbmaaGreatDoorAppFull
import Derived.Test.YtipoeigehabbmaaGreatDoorAlive10
import Derived.Test.YtipoeigehabbmaaGreatDoorSweepPlain
import Derived.Test.YtipoeigehabbmaaGreatDoorUniPlain
set_option linter.unusedSimpArgs false
set_option linter.unusedVariables false
namespace Go.Proofs.YtipoeigehabbmaaGreatDoor.Mut
open Go.RowKit Go.Sort Go.Proofs.YtipoeigehabbmaaGreatDoor.Ord Go.Proofs.YtipoeigehabbmaaGreatDoor.RegInv
set_option linter.unusedSectionVars false
variable [Inhabited Lim]

theorem Lst.cut {α : Type} {sz : Nat} {en : α → List Value} {w : World} {ao : Option Addr} {n cap : Nat} {l : List α} (h : Lst sz en w (.slice ao n cap) l) : Lst sz en w (.slice ao n n) l := by
  obtain ⟨ao', cap', e, h1, h2, h3⟩ := h
  cases e
  exact ⟨ao, l.length, rfl, Nat.le_refl _, Nat.le_trans h1 h2, h3⟩
theorem addC_fold {c : Con} {n : Nat} (h : Good c n) (l : List Mu) (m : Mu) : addC (leftOf (c.all ++ l)) m = leftOf (c.all ++ (l ++ [m])) := by
  rw [addC_left, List.append_assoc]
theorem c_scan {c : Con} {n : Nat} {v : Value} {w : World} (t phys : Int) (from_ to_ : ByteArray) (hv : IsC c v w) (h : Good c n) (hn : n ≤ 100000) :
    Calls Tryz.prog 45 #[v, .int .i64 t, .string from_, .string to_, .int .i64 phys] w (RowW w (scanF c t from_ to_ phys)) := scan_any v c n t phys from_ to_ w hv h hn
theorem see_left (RA : List Ro) (l : List Mu) (hl : RA.map (·.1) = l) (t phys : Int) (from_ to_ : ByteArray) : seeW (seeB ((setRo RA).map (·.1)) t from_ to_ phys) [] ((setRo RA).map (·.1)) = scanF (leftOf l) t from_ to_ phys := by
  obtain ⟨h1, h2, -⟩ := setRo_spec RA
  rw [hl] at h2
  exact see_shown l _ h1 h2 t from_ to_ phys
theorem setRo_over {RA : List Ro} {k : Nat} (h : ∀ x ∈ RA, x.1.over.length ≤ k) : ∀ x ∈ setRo RA, x.1.over.length ≤ k := fun x hx => h x (setRo_mem RA x hx)
theorem scan_len {c : Con} {n : Nat} (h : Good c n) (t phys : Int) (from_ to_ : ByteArray) : (scanF c t from_ to_ phys).length ≤ n := by
  unfold scanF shownF liveF
  rw [List.length_map]
  have hl := h.okc.len
  have h0 : c.all.length = c.cells.length + (c.wipes.length + c.sibs.length) := by unfold Con.all; simp
  refine Nat.le_trans (List.length_filter_le _ _) (Nat.le_trans (List.length_filter_le _ _) ?_)
  split
  · exact Nat.le_trans (List.length_filter_le _ _) (by omega)
  · exact Nat.le_trans (List.length_filter_le _ _) (by omega)

set_option maxHeartbeats 16000000 in
set_option maxRecDepth 100000 in
theorem keeps_any (v1 v2 : Value) (A B : List Ro) (f g : Stp) (phys : Int) (w : World) (hT : Tabs w) (hA : MRow w v1 A) (hB : MRow w v2 B) (zA : ∀ x ∈ A, x.1.key.size ≤ maxLen ∧ x.1.fin.size ≤ maxLen ∧ x.1.val.size ≤ maxLen) (zB : ∀ x ∈ B, x.1.key.size ≤ maxLen ∧ x.1.fin.size ≤ maxLen ∧ x.1.val.size ≤ maxLen) :
    Calls Tryz.prog 9 #[v1, v2, .agg #[.int .i64 f.p, .int .i64 f.l, .int .i64 f.w, .int .i64 g.p, .int .i64 g.l, .int .i64 g.w, .int .i64 phys]] w (RetB true w) := by
  have HGa := Lib.hid (fun (W : World) (hW : RowKit.Below w.heap.size w W) => great_any v1 A 30 W (hA.below hW) (by decide) zA)
  have HGb := Lib.hid (fun (W : World) (hW : RowKit.Below w.heap.size w W) => great_any v2 B 20 W (hB.below hW) (by decide) zB)
  obtain ⟨ga, hga⟩ : ∃ q, q = greatF (A.map (·.1)) 30 := ⟨_, rfl⟩
  obtain ⟨gb, hgb⟩ : ∃ q, q = greatF (B.map (·.1)) 20 := ⟨_, rfl⟩
  rw [← hga] at HGa
  rw [← hgb] at HGb
  have HLS := Lib.hid (fun W => refless_any g f W)
  obtain ⟨E, hE⟩ : ∃ E, E = decide (stC g f < 0) := ⟨_, rfl⟩
  rw [← hE] at HLS
  have HE := Lib.hid hE
  have HVA := Lib.hid hA
  have HVB := Lib.hid hB
  obtain ⟨ao, ac, rfl, -, -⟩ := hA.form
  obtain ⟨bo, bc, rfl, -, -⟩ := hB.form
  obtain ⟨na, hna⟩ : ∃ k, k = A.length := ⟨_, rfl⟩
  obtain ⟨nb, hnb⟩ : ∃ k, k = B.length := ⟨_, rfl⟩
  rw [← hna] at HGa HVA ⊢
  rw [← hnb] at HGb HVB ⊢
  have HNA := Lib.hid hna
  have HNB := Lib.hid hnb
  have HT := Lib.hid hT
  have HGG := Lib.hid (And.intro hga hgb)
  clear hT hA hB zA zB hga hgb hna hnb hE
  obtain ⟨fp, fl, fw⟩ := f
  obtain ⟨gp, gl, gw⟩ := g
  unfold vS at HLS
  simp only [] at HLS ⊢
  obtain ⟨W0, hW0⟩ : ∃ W0, W0 = w.alloc (.cells #[.int .i64 fp, .int .i64 fl, .int .i64 fw, .int .i64 gp, .int .i64 gl, .int .i64 gw, .int .i64 phys] 97) := ⟨_, rfl⟩
  have z0 : W0.cell? ⟨w.heap.size, 0, none⟩ = some (.int .i64 fp) := by rw [hW0]; go_simp
  have z1 : W0.cell? ⟨w.heap.size, 1, none⟩ = some (.int .i64 fl) := by rw [hW0]; go_simp
  have z2 : W0.cell? ⟨w.heap.size, 2, none⟩ = some (.int .i64 fw) := by rw [hW0]; go_simp
  have z3 : W0.cell? ⟨w.heap.size, 3, none⟩ = some (.int .i64 gp) := by rw [hW0]; go_simp
  have z4 : W0.cell? ⟨w.heap.size, 4, none⟩ = some (.int .i64 gl) := by rw [hW0]; go_simp
  have z5 : W0.cell? ⟨w.heap.size, 5, none⟩ = some (.int .i64 gw) := by rw [hW0]; go_simp
  have z6 : W0.cell? ⟨w.heap.size, 6, none⟩ = some (.int .i64 phys) := by rw [hW0]; go_simp
  have hs0 : w.heap.size < W0.heap.size := by rw [hW0]; simp
  have HB0 := Lib.hid (show RowKit.Below w.heap.size w W0 by rw [hW0]; exact (Below.refl _ _).alloc (Nat.le_refl _) _)
  obtain ⟨n0, hn0⟩ : ∃ n, n = w.heap.size := ⟨_, rfl⟩
  have HZ := Lib.hid (fun W (h : RowKit.Below W0.heap.size W0 W) => show W.cell? ⟨n0, 0, none⟩ = some (.int .i64 fp) ∧ W.cell? ⟨n0, 1, none⟩ = some (.int .i64 fl) ∧ W.cell? ⟨n0, 2, none⟩ = some (.int .i64 fw) ∧ W.cell? ⟨n0, 3, none⟩ = some (.int .i64 gp) ∧ W.cell? ⟨n0, 4, none⟩ = some (.int .i64 gl) ∧ W.cell? ⟨n0, 5, none⟩ = some (.int .i64 gw) ∧ W.cell? ⟨n0, 6, none⟩ = some (.int .i64 phys) from by
    rw [hn0]
    exact ⟨(h.cell (p := ⟨w.heap.size, 0, none⟩) hs0).trans z0, (h.cell (p := ⟨w.heap.size, 1, none⟩) hs0).trans z1, (h.cell (p := ⟨w.heap.size, 2, none⟩) hs0).trans z2, (h.cell (p := ⟨w.heap.size, 3, none⟩) hs0).trans z3, (h.cell (p := ⟨w.heap.size, 4, none⟩) hs0).trans z4, (h.cell (p := ⟨w.heap.size, 5, none⟩) hs0).trans z5, (h.cell (p := ⟨w.heap.size, 6, none⟩) hs0).trans z6⟩)
  have HW0 := Lib.hid hW0
  have HN0 := Lib.hid (And.intro hn0 hs0)
  clear hW0 z0 z1 z2 z3 z4 z5 z6 hn0 hs0
  go_enter Tryz.func9, Tryz.ntmps9
  go_upto_region 1 with fail
  rw [← HW0.out, ← HN0.out.1]
  clear HW0
  obtain ⟨z0, z1, z2, z3, z4, z5, z6⟩ := HZ.out W0 (Below.refl _ _)
  go_wp2_with fail
  refine (HGa.out _ HB0.out).mono ?_
  rintro e w1 ⟨rfl, rfl⟩
  cases ga
  case true =>
    go_wp2_with fail
    go_ret
    exact ⟨rfl, HB0.out⟩
  go_wp2_with fail
  refine (HGb.out _ HB0.out).mono ?_
  rintro e w1 ⟨rfl, rfl⟩
  cases gb
  case true =>
    go_wp2_with fail
    go_ret
    exact ⟨rfl, HB0.out⟩
  by_cases hp : phys < gp
  · have hd : decide (phys < gp) = true := decide_eq_true hp
    go_wp2_with fail
    go_ret
    exact ⟨rfl, HB0.out⟩
  have hd : decide (phys < gp) = false := decide_eq_false hp
  go_wp2_with fail
  refine (HLS.out _).mono ?_
  rintro e w1 ⟨rfl, hb1⟩
  have HE1 := Lib.hid hb1
  clear hb1
  cases E
  case true =>
    go_wp2_with fail
    go_ret
    exact ⟨rfl, below_then HB0.out (Nat.le_refl _) HE1.out⟩
  clear z0 z1 z2 z3 z4 z5 z6 hd
  have HP := Lib.hid hp
  clear hp
  obtain ⟨lA, sA⟩ := great_small HGG.out.1.symm
  obtain ⟨lB, sB⟩ := great_small HGG.out.2.symm
  obtain ⟨la, hla⟩ : ∃ l, l = A.map (·.1) := ⟨_, rfl⟩
  obtain ⟨lb, hlb⟩ : ∃ l, l = B.map (·.1) := ⟨_, rfl⟩
  rw [← hla] at lA sA
  rw [← hlb] at lB sB
  have HLA := Lib.hid hla
  have HLB := Lib.hid hlb
  obtain ⟨x, hx⟩ : ∃ x, x = leftOf la := ⟨_, rfl⟩
  have HO := Lib.hid (fun W (h : RowKit.Below w1.heap.size w1 W) => show Calls Tryz.prog 15 #[.slice ao na ac] W (RetC x W) from by
    rw [hx]
    exact c_of (HT.out.below (below_then (below_then HB0.out (Nat.le_refl _) HE1.out) (Nat.le_refl _) h)) ⟨A, HLA.out.symm, HVA.out.below (below_then (below_then HB0.out (Nat.le_refl _) HE1.out) (Nat.le_refl _) h)⟩ (by omega) sA)
  have HG := Lib.hid (show Good x 30 from by rw [hx]; exact (leftOf_good la).more lA)
  have HX := Lib.hid hx
  have HSA := Lib.hid (And.intro lA sA)
  have HSB := Lib.hid (And.intro lB sB)
  have HSW := Lib.hid (fun (c : Con) (n : Nat) (s : Stp) (v : Value) (W : World) (hv : IsC c v W) (h : Good c n) (hn : n ≤ 100000) => show Calls Tryz.prog 39 #[v, .agg #[.int .i64 s.p, .int .i64 s.l, .int .i64 s.w]] W (RetC (sweepC c s) W) from c_sweep s hv h hn)
  clear lA sA lB sB hla hlb hx HGa HGb HGG HLS
  have HZ1 := Lib.hid (fun W (h : RowKit.Below w1.heap.size w1 W) => HZ.out W (below_then HE1.out (Nat.le_refl _) h))
  have HB1 := Lib.hid (below_then HB0.out (Nat.le_refl _) HE1.out)
  go_wp2_with fail
  refine wp_region_told [8] 9 [false, false, false, false, false, false, false, true, false, false, false, false, false, false, false, false, false, false, false, false, false, false, false, false, false, false, false, false, false, false, false, false, true, true, true, true, true, true, true, true, false, false, false, false, false, false, false, false, false, false, false, false, false, false, false, false, false, false, false, false, false, false, false, false, false, false, false, false, false, false, false, false, false, false, false, false, false, false, false, false, false, false, false, false, false, false, false, false, false, false, false, false]
    [sLit (.slice ao na ac),
    sOne (IsC (x)) (fun _ _ _ h hb => h.below hb),
    sLit (.pointer (some ⟨n0, 0, none⟩)),
    sLit (.agg #[.int .i64 fp, .int .i64 fl, .int .i64 fw]),
    sOne (IsC (sweepC x ⟨fp, fl, fw⟩)) (fun _ _ _ h hb => h.below hb),
    sLit (.pointer (some ⟨n0, 3, none⟩)),
    sLit (.agg #[.int .i64 gp, .int .i64 gl, .int .i64 gw]),
    sOne (IsC (sweepC (sweepC x ⟨fp, fl, fw⟩) ⟨gp, gl, gw⟩)) (fun _ _ _ h hb => h.below hb),
    sOne (fun v W => ∃ k, v = .pointer (some ⟨k, 0, none⟩) ∧ C3 W k (.slice none 0 0) (.slice none 0 0) (.slice none 0 0) ∧ w1.heap.size ≤ k) (fun _ _ _ h hb => h.elim fun k h => ⟨k, h.1, h.2.1.below hb, h.2.2⟩)] (by kernel_rfl) (by kernel_rfl) (by kernel_rfl) (fun F hF => ?_)
  simp only [over, overL, Nat.reduceAdd] at hF
  obtain rfl := funext hF
  clear hF
  refine ⟨⟨?_, ?_, ?_, ?_, ?_, ?_, ?_, ?_, ?_, trivial⟩, ?_⟩
  · intro V W hb hd K hK _
    clear hd
    go_wp2_with fail
    refine hK _ _ ?_ ?_ ?_ ?_
    · rfl
    · exact Below.refl _ _
    · exact rfl
    · trivial
  · intro V W hb hd K hK _
    have h0 : (V 32) = .slice ao na ac := hd 0 (by kernel_rfl)
    clear hd
    go_wp2_with fail
    refine (HO.out W hb).mono ?_
    rintro e w1 ⟨v1, rfl, hv1, hb1⟩
    go_wp2_with fail
    refine hK _ _ ?_ ?_ ?_ ?_
    · rfl
    · exact hb1
    · exact hv1
    · trivial
  · intro V W hb hd K hK _
    clear hd
    go_wp2_with fail
    refine hK _ _ ?_ ?_ ?_ ?_
    · rfl
    · exact Below.refl _ _
    · exact rfl
    · trivial
  · intro V W hb hd K hK _
    have h2 : (V 34) = .pointer (some ⟨n0, 0, none⟩) := hd 2 (by kernel_rfl)
    clear hd
    obtain ⟨z0, z1, z2, z3, z4, z5, z6⟩ := HZ1.out W hb
    go_wp2_with fail
    refine hK _ _ ?_ ?_ ?_ ?_
    · rfl
    · exact Below.refl _ _
    · exact rfl
    · trivial
  · intro V W hb hd K hK _
    have h1 : IsC (x) (V 33) W := hd 1 (by kernel_rfl)
    have h3 : (V 35) = .agg #[.int .i64 fp, .int .i64 fl, .int .i64 fw] := hd 3 (by kernel_rfl)
    clear hd
    go_wp2_with fail
    refine (HSW.out x 30 ⟨fp, fl, fw⟩ _ _ h1 HG.out (by decide)).mono ?_
    rintro e w1 ⟨v1, rfl, hv1, hb1⟩
    go_wp2_with fail
    refine hK _ _ ?_ ?_ ?_ ?_
    · rfl
    · exact hb1
    · exact hv1
    · trivial
  · intro V W hb hd K hK _
    clear hd
    go_wp2_with fail
    refine hK _ _ ?_ ?_ ?_ ?_
    · rfl
    · exact Below.refl _ _
    · exact rfl
    · trivial
  · intro V W hb hd K hK _
    have h5 : (V 37) = .pointer (some ⟨n0, 3, none⟩) := hd 5 (by kernel_rfl)
    clear hd
    obtain ⟨z0, z1, z2, z3, z4, z5, z6⟩ := HZ1.out W hb
    go_wp2_with fail
    refine hK _ _ ?_ ?_ ?_ ?_
    · rfl
    · exact Below.refl _ _
    · exact rfl
    · trivial
  · intro V W hb hd K hK _
    have h4 : IsC (sweepC x ⟨fp, fl, fw⟩) (V 36) W := hd 4 (by kernel_rfl)
    have h6 : (V 38) = .agg #[.int .i64 gp, .int .i64 gl, .int .i64 gw] := hd 6 (by kernel_rfl)
    clear hd
    go_wp2_with fail
    refine (HSW.out (sweepC x ⟨fp, fl, fw⟩) 30 ⟨gp, gl, gw⟩ _ _ h4 (HG.out.filter _) (by decide)).mono ?_
    rintro e w1 ⟨v1, rfl, hv1, hb1⟩
    go_wp2_with fail
    refine hK _ _ ?_ ?_ ?_ ?_
    · rfl
    · exact hb1
    · exact hv1
    · trivial
  · intro V W hb hd K hK _
    clear hd
    go_wp2_with fail
    refine hK _ _ ?_ ?_ ?_ ?_
    · rfl
    · exact (Below.refl _ _).alloc (Nat.le_refl _) _
    · exact ⟨_, rfl, C3.new W _ _ _, hb.size⟩
    · exact ⟨rfl, by simp⟩
  · intro V W hb hd hap
    have h7 : IsC (sweepC (sweepC x ⟨fp, fl, fw⟩) ⟨gp, gl, gw⟩) (V 39) W := hd 7 (by decide)
    have h8 : ∃ k, (V 7) = .pointer (some ⟨k, 0, none⟩) ∧ C3 W k (.slice none 0 0) (.slice none 0 0) (.slice none 0 0) ∧ w1.heap.size ≤ k := hd 8 (by decide)
    clear hd
    simp only [List.drop_succ_cons, List.drop_zero]
    obtain ⟨p1, q1, r1, p2, q2, r2, p3, q3, r3, e39, hl39⟩ := h7.form
    obtain ⟨k7, e7, c7, g7⟩ := h8
    have HL39 := Lib.hid hl39
    have HC7 := Lib.hid c7
    have HBw := Lib.hid hb
    have HG7 := Lib.hid g7
    clear hl39 g7 hb h7 hap
    obtain ⟨-, s0, s1, s2, f0, f1, f2⟩ := c7
    obtain ⟨c0, hc0⟩ : ∃ c, c = sweepC (sweepC x ⟨fp, fl, fw⟩) ⟨gp, gl, gw⟩ := ⟨_, rfl⟩
    rw [← hc0] at HL39
    have HC0 := Lib.hid hc0
    have HG0 := Lib.hid (show Good c0 30 from by rw [hc0]; exact (HG.out.filter _).filter _)
    clear hc0
    go_upto_region 4 with fail
    obtain ⟨W2, hW2⟩ : ∃ W2, W2 = (((W.setCell ⟨k7, 0, none⟩ (.slice p1 q1 r1)).setCell ⟨k7, 1, none⟩ (.slice p2 q2 r2)).setCell ⟨k7, 2, none⟩ (.slice p3 q3 r3)) := ⟨_, rfl⟩
    rw [← hW2]
    have HCb := Lib.hid (show C3 W2 k7 (.slice p1 q1 r1) (.slice p2 q2 r2) (.slice p3 q3 r3) by rw [hW2]; exact c3_put HC7.out _ _ _)
    have HLb := Lib.hid (show Lies W2 (.slice p1 q1 r1) (.slice p2 q2 r2) (.slice p3 q3 r3) c0 by rw [hW2]; exact HL39.out.plain3 (plain3 HC7.out _ _ _))
    have HB2 := Lib.hid (show RowKit.Below w1.heap.size w1 W2 by rw [hW2]; exact c3_put_below HBw.out HG7.out _ _ _)
    clear hW2 s0 s1 s2 f0 f1 f2 e39 e7 HC7 HL39 HBw
    have HTW := Lib.hid (fun W' (h : RowKit.Below w1.heap.size w1 W') => HT.out.below (below_then HB1.out (Nat.le_refl _) h))
    go_wp2_with fail
    go_loopw [8, 9] (fun av iv wr => ∃ k : Nat, k ≤ nb ∧ iv = .int .i64 k ∧ Hid (Reads wr av (la ++ lb.take k)) ∧ Hid (∀ m ∈ lb.take k, stC ⟨gp, gl, gw⟩ m.at_ < 0) ∧ Hid (∃ o1 m1 k1 o2 m2 k2 o3 m3 k3, C3 wr k7 (.slice o1 m1 k1) (.slice o2 m2 k2) (.slice o3 m3 k3) ∧ Lies wr (.slice o1 m1 k1) (.slice o2 m2 k2) (.slice o3 m3 k3) (leftOf (c0.all ++ lb.take k))) ∧ Hid (RowKit.Below w1.heap.size w1 wr)) (fun _ iv _ => nb - (intOf iv).toNat)
    case atStart => exact ⟨0, by omega, rfl, Lib.hid ⟨A, by rw [HLA.out]; simp, HVA.out.below (below_then HB1.out (Nat.le_refl _) HB2.out)⟩, Lib.hid (fun m hm => by simp at hm), Lib.hid ⟨_, _, _, _, _, _, _, _, _, HCb.out, by rw [List.take_zero, List.append_nil, HG0.out.left]; exact HLb.out⟩, HB2⟩
    case round =>
      obtain ⟨k, hk, rfl, hrow, hlater, hbox, hl⟩ := hrel
      obtain ⟨RA, eRA, hRA⟩ := hrow.out
      obtain ⟨p7, q7, r7, p8, q8, r8, p9, q9, r9, hc7, hl7⟩ := hbox.out
      obtain ⟨ro, rc, hav, -, -⟩ := hRA.form
      subst hav
      obtain ⟨nr, hnr⟩ : ∃ n, n = RA.length := ⟨_, rfl⟩
      rw [← hnr] at hRA ⊢
      have HNR := Lib.hid hnr
      have HRA := Lib.hid hRA
      have HER := Lib.hid eRA
      have HC7 := Lib.hid hc7
      have HL7 := Lib.hid hl7
      have hnb2 := HNB.out
      have hlbl : lb.length = nb := by rw [HLB.out, List.length_map]; exact hnb2.symm
      have HLBL := Lib.hid hlbl
      have hla30 := HSA.out.1
      have hlb20 := HSB.out.1
      have hnrl : nr ≤ 50 := by rw [hnr]; have h := congrArg List.length eRA; rw [List.length_map, List.length_append] at h; have := List.length_take_le k lb; omega
      clear hrow hbox hnr hRA eRA hc7 hl7 hnb2
      by_cases hlt : k < nb
      · have hkr : k < B.length := by have := HNB.out; omega
        obtain ⟨z, hx⟩ : ∃ x, B[k]? = some x := ⟨_, List.getElem?_eq_getElem hkr⟩
        have hxm := List.mem_of_getElem? hx
        have hvb := HVB.out.below (below_then HB1.out (Nat.le_refl _) hl.out)
        have hxo := hvb.over z hxm
        obtain ⟨xb, xoff, hao, hat⟩ := hvb.at_ hx
        cases hao
        have htk : lb.take (k + 1) = lb.take k ++ [z.1] := by rw [List.take_add_one, HLB.out, List.getElem?_map, hx]; rfl
        have hsm := HSB.out.2 z.1 (by rw [HLB.out]; exact List.mem_map.2 ⟨z, hxm, rfl⟩)
        obtain ⟨D, hD⟩ : ∃ D, D = decide (stC ⟨gp, gl, gw⟩ z.1.at_ < 0) := ⟨_, rfl⟩
        have HLS := Lib.hid (fun W => refless_any ⟨gp, gl, gw⟩ z.1.at_ W)
        rw [← hD] at HLS
        have HDD := Lib.hid hD
        have HADD := Lib.hid (fun W (hW : RowKit.Below wr.heap.size wr W) => show Calls Tryz.prog 17 #[.agg #[.slice p7 q7 r7, .slice p8 q8 r8, .slice p9 q9 r9], vM z] W (RetC (leftOf (c0.all ++ lb.take (k + 1))) W) from by
          rw [htk, ← addC_fold HG0.out]
          exact c_add (n := 50) (HTW.out W (below_then hl.out (Nat.le_refl _) hW)) (HL7.out.below hW).is ((leftOf_good _).more (by rw [List.length_append]; have := HG0.out.okc.len; have := List.length_take_le k lb; omega)) (by decide) (Over.below hxo hW) hsm)
        have HTK := Lib.hid htk
        have HZO := Lib.hid hxo
        have HAT := Lib.hid hat
        have HBX := Lib.hid hx
        obtain ⟨xo, xc, ex, -, -⟩ := Over.form hxo
        clear hxo hat htk hx hD hsm hvb hxm
        obtain ⟨⟨at1, ak1, akey1, afin1, aval1, aex1, ⟨ap1, al1, aw1⟩, aov1⟩, av1⟩ := z
        simp only [] at ex
        obtain ⟨xn, hxn⟩ : ∃ k, k = aov1.length := ⟨_, rfl⟩
        rw [← hxn] at ex
        subst ex
        clear hxn
        unfold vM at HADD
        unfold vS at HLS
        simp only [] at HADD HLS
        obtain ⟨hbl, a0, a1, a2, a3, a4, a5, a6, a7, a8, a9⟩ := HAT.out
        simp only [] at a0 a1 a2 a3 a4 a5 a6 a7 a8 a9
        have j0 : (0 : Int) ≤ (k : Int) := by omega
        have j1 : (k : Int) < (nb : Int) := by omega
        obtain ⟨z0, z1, z2, z3, z4, z5, z6⟩ := HZ1.out wr hl.out
        have hgr : n0 < wr.heap.size := by have h1 := HN0.out.1; have h2 := HN0.out.2; have h3 := HE1.out.size; have h4 := hl.out.size; omega
        go_wp2_with fail
        refine wp_region_calm (by kernel_rfl) (by kernel_rfl) ?_
        repeat (go_big_quiet_step (first | (go_at_call 37; exact calm (HLS.out _))))
        refine wpQuiet_nil ?_
        rintro _ ⟨y, rfl⟩
        obtain ⟨W3, hW3⟩ : ∃ W3, W3 = y.at := ⟨_, rfl⟩
        have hy := y.below
        rw [← hW3] at hy ⊢
        have HY := Lib.hid hy
        clear hW3 y hy a0 a1 a2 a3 a4 a5 a6 a7 a8 a9 z0 z1 z2 z3 z4 z5 z6 hbl HLS
        cases D
        · go_wp2_with fail
          go_ret
          exact ⟨rfl, below_then HB1.out (Nat.le_refl _) (below_then hl.out (Nat.le_refl _) HY.out)⟩
        have HLT := Lib.hid (show ∀ m ∈ lb.take (k + 1), stC ⟨gp, gl, gw⟩ m.at_ < 0 from fun m hm => by
          rw [HTK.out] at hm
          rcases List.mem_append.1 hm with h | h
          · exact hlater.out m h
          · rw [List.mem_singleton.1 h]
            exact of_decide_eq_true HDD.out.symm)
        have HC73 := Lib.hid (HC7.out.below HY.out)
        have HAT3 := Lib.hid (HAT.out.below HY.out)
        have HY0 := Lib.hid (Below.refl W3.heap.size W3)
        have HWR := Lib.hid (fun W (h : RowKit.Below W3.heap.size W3 W) => below_then HY.out (Nat.le_refl _) h)
        clear HAT HC7 HDD
        go_wp2_with fail
        refine wp_region_told [] 6 [false, false, false, false, false, false, false, false, false, false, false, false, false, false, false, false, false, false, false, false, false, false, false, false, false, false, false, false, false, false, false, false, false, false, false, false, false, false, false, false, false, false, false, false, false, false, false, false, false, false, false, false, false, false, false, false, true, true, true, true, true, true, false, false, false, false, false, false, false, false, false, false, false, false, false, false, false, false, false, false, false, false, false, false, false, false, false, false, false, false, false, false]
          [sLit (.agg #[.slice p7 q7 r7, .slice p8 q8 r8, .slice p9 q9 r9]),
    sLit (.slice (some ⟨xb, xoff, none⟩) nb bc),
    sLit (.int .i64 k),
    sLit (.pointer (some ⟨xb, xoff + k * 10, none⟩)),
    sLit (.agg #[.int .i64 at1, .int .i64 ak1, .string akey1, .string afin1, .string aval1, .int .i64 aex1, .int .i64 ap1, .int .i64 al1, .int .i64 aw1, .slice xo xn xc]),
    sOne (IsC (leftOf (c0.all ++ lb.take (k + 1)))) (fun _ _ _ h hb => h.below hb)] (by kernel_rfl) (by kernel_rfl) (by kernel_rfl) (fun F hF => ?_)
        simp only [over, overL, Nat.reduceAdd] at hF
        obtain rfl := funext hF
        clear hF
        refine ⟨⟨?_, ?_, ?_, ?_, ?_, ?_, trivial⟩, ?_⟩
        · intro V W hb hd K hK _
          clear hd
          obtain ⟨-, s0, s1, s2, -⟩ := HC73.out.below hb
          go_wp2_with fail
          refine hK _ _ ?_ ?_ ?_ ?_
          · rfl
          · exact Below.refl _ _
          · exact rfl
          · trivial
        · intro V W hb hd K hK _
          clear hd
          go_wp2_with fail
          refine hK _ _ ?_ ?_ ?_ ?_
          · rfl
          · exact Below.refl _ _
          · exact rfl
          · trivial
        · intro V W hb hd K hK _
          clear hd
          go_wp2_with fail
          refine hK _ _ ?_ ?_ ?_ ?_
          · rfl
          · exact Below.refl _ _
          · exact rfl
          · trivial
        · intro V W hb hd K hK _
          have h1 : (V 57) = .slice (some ⟨xb, xoff, none⟩) nb bc := hd 1 (by kernel_rfl)
          have h2 : (V 58) = .int .i64 k := hd 2 (by kernel_rfl)
          clear hd
          go_wp2_with fail
          refine hK _ _ ?_ ?_ ?_ ?_
          · rfl
          · exact Below.refl _ _
          · exact rfl
          · trivial
        · intro V W hb hd K hK _
          have h3 : (V 59) = .pointer (some ⟨xb, xoff + k * 10, none⟩) := hd 3 (by kernel_rfl)
          clear hd
          obtain ⟨hbl, a0, a1, a2, a3, a4, a5, a6, a7, a8, a9⟩ := HAT3.out.below hb
          simp only [] at a0 a1 a2 a3 a4 a5 a6 a7 a8 a9
          go_wp2_with fail
          refine hK _ _ ?_ ?_ ?_ ?_
          · rfl
          · exact Below.refl _ _
          · exact rfl
          · trivial
        · intro V W hb hd K hK _
          have h0 : (V 56) = .agg #[.slice p7 q7 r7, .slice p8 q8 r8, .slice p9 q9 r9] := hd 0 (by kernel_rfl)
          have h4 : (V 60) = .agg #[.int .i64 at1, .int .i64 ak1, .string akey1, .string afin1, .string aval1, .int .i64 aex1, .int .i64 ap1, .int .i64 al1, .int .i64 aw1, .slice xo xn xc] := hd 4 (by kernel_rfl)
          clear hd
          go_wp2_with fail
          refine (HADD.out W (HWR.out W hb)).mono ?_
          rintro e w1 ⟨v1, rfl, hv1, hb1⟩
          go_wp2_with fail
          refine hK _ _ ?_ ?_ ?_ ?_
          · rfl
          · exact hb1
          · exact hv1
          · trivial
        · intro V W hb hd hap
          have h5 : IsC (leftOf (c0.all ++ lb.take (k + 1))) (V 61) W := hd 5 (by decide)
          clear hd hap
          simp only [List.drop_succ_cons, List.drop_zero]
          obtain ⟨p10, q10, r10, p11, q11, r11, p12, q12, r12, e61, hlj⟩ := h5.form
          have HLJ := Lib.hid hlj
          have HCW := Lib.hid (HC73.out.below hb)
          have HBn := Lib.hid hb
          clear hlj hb h5
          obtain ⟨-, s0, s1, s2, f0, f1, f2⟩ := HCW.out
          go_upto_region 11 with fail
          obtain ⟨W4, hW4⟩ : ∃ W4, W4 = (((W.setCell ⟨k7, 0, none⟩ (.slice p10 q10 r10)).setCell ⟨k7, 1, none⟩ (.slice p11 q11 r11)).setCell ⟨k7, 2, none⟩ (.slice p12 q12 r12)) := ⟨_, rfl⟩
          rw [← hW4]
          have HC4 := Lib.hid (show C3 W4 k7 (.slice p10 q10 r10) (.slice p11 q11 r11) (.slice p12 q12 r12) by rw [hW4]; exact c3_put HCW.out _ _ _)
          have HL4 := Lib.hid (show Lies W4 (.slice p10 q10 r10) (.slice p11 q11 r11) (.slice p12 q12 r12) (leftOf (c0.all ++ lb.take (k + 1))) by rw [hW4]; exact HLJ.out.plain3 (plain3 HCW.out _ _ _))
          have HB4 := Lib.hid (show RowKit.Below w1.heap.size w1 W4 by rw [hW4]; exact c3_put_below (below_then hl.out (Nat.le_refl _) (HWR.out _ HBn.out)) HG7.out _ _ _)
          have HP3 := Lib.hid (show Plain3 W W4 by rw [hW4]; exact plain3 HCW.out _ _ _)
          obtain ⟨RB, eRB, hRB⟩ := Reads.plain3 (⟨RA, HER.out, HRA.out.below (HWR.out _ HBn.out)⟩ : Reads W (.slice ro nr rc) (la ++ lb.take k)) HP3.out
          obtain ⟨ro9, rc9, e9, hcap1, hcap2⟩ := hRB.form
          injection e9 with q1 q2 q3
          subst q3
          rw [← q2] at hcap1
          clear q1 q2
          have HRB := Lib.hid hRB
          have HERB := Lib.hid eRB
          have HCAP := Lib.hid (And.intro hcap1 hcap2)
          have hrc : rc ≤ 9223372036854775807 := by unfold maxLen at hcap2; omega
          have hvb4 := HVB.out.below (below_then HB1.out (Nat.le_refl _) HB4.out)
          obtain ⟨b4, o4, hao4, hat4⟩ := hvb4.at_ HBX.out
          cases hao4
          have HAT4 := Lib.hid hat4
          have HZ4 := Lib.hid (hvb4.over _ (List.mem_of_getElem? HBX.out))
          clear hW4 hRB eRB hat4 hvb4 s0 s1 s2 f0 f1 f2 HLJ HCW HP3 e61 hcap2
          have i0 : (0 : Int) ≤ (nr : Int) := by omega
          have i1 : (nr : Int) ≤ (rc : Int) := by omega
          go_wp2_with fail
          refine wp_region_told [] 11 [false, false, false, false, false, false, false, false, false, false, false, false, false, false, false, false, false, false, false, false, false, false, false, false, false, false, false, false, false, false, false, false, false, false, false, false, false, false, false, false, false, false, false, false, false, false, false, false, false, false, false, false, false, false, false, false, false, false, false, false, false, false, true, true, true, true, true, true, true, true, true, true, true, false, false, false, false, false, false, false, false, false, false, false, false, false, false, false, false, false, false, false]
            [sLit (.slice ro nr rc),
    sLit (.slice ro nr rc),
    sLit (.int .i64 nr),
    sLit (.slice ro nr rc),
    sLit (.int .i64 nr),
    sLit (.slice ro nr nr),
    sLit (.slice (some ⟨xb, xoff, none⟩) nb bc),
    sLit (.int .i64 k),
    sLit (.pointer (some ⟨xb, xoff + k * 10, none⟩)),
    sLit (.agg #[.int .i64 at1, .int .i64 ak1, .string akey1, .string afin1, .string aval1, .int .i64 aex1, .int .i64 ap1, .int .i64 al1, .int .i64 aw1, .slice xo xn xc]),
    sOne (fun v W => ∃ k, v = .slice (some ⟨k, 0, none⟩) 1 1 ∧ MRow W v [(⟨⟨at1, ak1, akey1, afin1, aval1, aex1, ⟨ap1, al1, aw1⟩, aov1⟩, .slice xo xn xc⟩ : Ro)]) (fun _ _ _ h hb => h.elim fun k h => ⟨k, h.1, h.2.below hb⟩)] (by kernel_rfl) (by kernel_rfl) (by kernel_rfl) (fun F hF => ?_)
          simp only [over, overL, Nat.reduceAdd] at hF
          obtain rfl := funext hF
          clear hF
          refine ⟨⟨?_, ?_, ?_, ?_, ?_, ?_, ?_, ?_, ?_, ?_, ?_, trivial⟩, ?_⟩
          · intro V W hb hd K hK _
            clear hd
            go_wp2_with fail
            refine hK _ _ ?_ ?_ ?_ ?_
            · rfl
            · exact Below.refl _ _
            · exact rfl
            · trivial
          · intro V W hb hd K hK _
            clear hd
            go_wp2_with fail
            refine hK _ _ ?_ ?_ ?_ ?_
            · rfl
            · exact Below.refl _ _
            · exact rfl
            · trivial
          · intro V W hb hd K hK _
            have h1 : (V 63) = .slice ro nr rc := hd 1 (by kernel_rfl)
            clear hd
            go_wp2_with fail
            refine hK _ _ ?_ ?_ ?_ ?_
            · rfl
            · exact Below.refl _ _
            · exact rfl
            · trivial
          · intro V W hb hd K hK _
            clear hd
            go_wp2_with fail
            refine hK _ _ ?_ ?_ ?_ ?_
            · rfl
            · exact Below.refl _ _
            · exact rfl
            · trivial
          · intro V W hb hd K hK _
            have h3 : (V 65) = .slice ro nr rc := hd 3 (by kernel_rfl)
            clear hd
            go_wp2_with fail
            refine hK _ _ ?_ ?_ ?_ ?_
            · rfl
            · exact Below.refl _ _
            · exact rfl
            · trivial
          · intro V W hb hd K hK _
            have h0 : (V 62) = .slice ro nr rc := hd 0 (by kernel_rfl)
            have h2 : (V 64) = .int .i64 nr := hd 2 (by kernel_rfl)
            have h4 : (V 66) = .int .i64 nr := hd 4 (by kernel_rfl)
            clear hd
            go_wp2_with fail
            refine hK _ _ ?_ ?_ ?_ ?_
            · rfl
            · exact Below.refl _ _
            · exact rfl
            · trivial
          · intro V W hb hd K hK _
            clear hd
            go_wp2_with fail
            refine hK _ _ ?_ ?_ ?_ ?_
            · rfl
            · exact Below.refl _ _
            · exact rfl
            · trivial
          · intro V W hb hd K hK _
            clear hd
            go_wp2_with fail
            refine hK _ _ ?_ ?_ ?_ ?_
            · rfl
            · exact Below.refl _ _
            · exact rfl
            · trivial
          · intro V W hb hd K hK _
            have h6 : (V 68) = .slice (some ⟨xb, xoff, none⟩) nb bc := hd 6 (by kernel_rfl)
            have h7 : (V 69) = .int .i64 k := hd 7 (by kernel_rfl)
            clear hd
            go_wp2_with fail
            refine hK _ _ ?_ ?_ ?_ ?_
            · rfl
            · exact Below.refl _ _
            · exact rfl
            · trivial
          · intro V W hb hd K hK _
            have h8 : (V 70) = .pointer (some ⟨xb, xoff + k * 10, none⟩) := hd 8 (by kernel_rfl)
            clear hd
            obtain ⟨hbl, a0, a1, a2, a3, a4, a5, a6, a7, a8, a9⟩ := HAT4.out.below hb
            simp only [] at a0 a1 a2 a3 a4 a5 a6 a7 a8 a9
            go_wp2_with fail
            refine hK _ _ ?_ ?_ ?_ ?_
            · rfl
            · exact Below.refl _ _
            · exact rfl
            · trivial
          · intro V W hb hd K hK _
            have h9 : (V 71) = .agg #[.int .i64 at1, .int .i64 ak1, .string akey1, .string afin1, .string aval1, .int .i64 aex1, .int .i64 ap1, .int .i64 al1, .int .i64 aw1, .slice xo xn xc] := hd 9 (by kernel_rfl)
            clear hd
            go_wp2_with fail
            refine hK _ _ ?_ ?_ ?_ ?_
            · rfl
            · exact (Below.refl _ _).alloc (Nat.le_refl _) _
            · exact ⟨_, rfl, one_row (HZ4.out.below hb)⟩
            · trivial
          · intro V W hb hd hap
            have h5 : (V 67) = .slice ro nr nr := hd 5 (by decide)
            have h10 : ∃ k, (V 72) = .slice (some ⟨k, 0, none⟩) 1 1 ∧ MRow W (V 72) [(⟨⟨at1, ak1, akey1, afin1, aval1, aex1, ⟨ap1, al1, aw1⟩, aov1⟩, .slice xo xn xc⟩ : Ro)] := hd 10 (by decide)
            clear hd hap
            simp only [List.drop_succ_cons, List.drop_zero]
            obtain ⟨kb, e72, hone⟩ := h10
            rw [e72] at hone
            have HON := Lib.hid hone
            have HRC := Lib.hid (HRB.out.below hb)
            have HRCut := Lib.hid (show MRow W (.slice ro nr nr) RB from ⟨Lst.cut HRC.out.row, HRC.out.over⟩)
            have HBn2 := Lib.hid hb
            clear hone hb
            go_wp2_with (at_builtin; refine wpList_append_cut rfl (.tmp 67) (.tmp 72) rfl ro nr RB (by first | exact h5 | rfl) HRCut.out ⟨kb, 0, none⟩ 1 1 [(⟨⟨at1, ak1, akey1, afin1, aval1, aex1, ⟨ap1, al1, aw1⟩, aov1⟩, .slice xo xn xc⟩ : Ro)] (by first | exact e72 | rfl) HON.out (by decide) (by omega) ?_)
            intro v5 w5 hr5 hb5
            have HR5 := Lib.hid (show Reads w5 v5 (la ++ lb.take (k + 1)) from ⟨_, by rw [List.map_append, HERB.out, HTK.out, List.append_assoc]; rfl, hr5⟩)
            have hb6 : RowKit.Below W4.heap.size W4 w5 := below_then HBn2.out (Nat.le_refl _) hb5
            have HC5 := Lib.hid (HC4.out.below hb6)
            have HL5 := Lib.hid (HL4.out.below hb6)
            have HB6 := Lib.hid (below_then HB4.out (Nat.le_refl _) hb6)
            clear hr5 hb5 hb6
            go_wp2_with fail
            go_roundw
            case rel => exact ⟨k + 1, by omega, by go_num, HR5, HLT, Lib.hid ⟨_, _, _, _, _, _, _, _, _, HC5.out, HL5.out⟩, HB6⟩
            case measure => simp [intOf]; omega
      · obtain rfl : k = nb := by omega
        have htk : lb.take k = lb := List.take_of_length_le (by omega)
        rw [htk] at HL7
        have hall := hlater.out
        rw [htk] at hall
        have HER2 := Lib.hid (show RA.map (·.1) = la ++ lb by rw [HER.out, htk])
        have hf : ¬ stC ⟨gp, gl, gw⟩ ⟨fp, fl, fw⟩ < 0 := of_decide_eq_false HE.out.symm
        have hKP : ∀ t : Int, scanF (leftOf (c0.all ++ lb)) t ⟨#[]⟩ ⟨#[255]⟩ phys = scanF (leftOf (la ++ lb)) t ⟨#[]⟩ ⟨#[255]⟩ phys := fun t => by
          unfold scanF
          have h := sweep_keeps la lb ⟨fp, fl, fw⟩ ⟨gp, gl, gw⟩ t phys hf (by have := HP.out; show gp ≤ phys; omega) hall
          rw [← HX.out, ← HC0.out] at h
          rw [h]
        have HKP := Lib.hid hKP
        have HGL := Lib.hid (show Good (leftOf (c0.all ++ lb)) 50 from (leftOf_good _).more (by rw [List.length_append]; have := HG0.out.okc.len; omega))
        have HOV := Lib.hid (show ∀ y ∈ RA, Small y.1 from fun y hy => by
          have h : y.1 ∈ la ++ lb := by rw [← HER2.out]; exact List.mem_map.2 ⟨y, hy, rfl⟩
          rcases List.mem_append.1 h with g | g
          · exact HSA.out.2 _ g
          · exact HSB.out.2 _ g)
        have HNRL := Lib.hid (show RA.length ≤ 50 by have := HNR.out; omega)
        obtain ⟨W5, hW5⟩ : ∃ W5, W5 = wr := ⟨_, rfl⟩
        rw [← hW5] at HC7 HL7 HRA hl ⊢
        clear hW5 htk hall hf hKP hlater
        go_wp2_with fail
        go_loopw [10] (fun iv wr => ∃ j : Nat, 1 ≤ j ∧ j ≤ 3 ∧ iv = .int .i64 j ∧ Hid (RowKit.Below W5.heap.size W5 wr)) (fun iv _ => 3 - (intOf iv).toNat)
        case atStart => exact ⟨1, by omega, by omega, rfl, Lib.hid (Below.refl _ _)⟩
        case round =>
          obtain ⟨j, hj1, hj2, rfl, hl5⟩ := hrel
          have HWX := Lib.hid (fun W (h : RowKit.Below wr.heap.size wr W) => below_then hl5.out (Nat.le_refl _) h)
          have HZ5 := Lib.hid (fun W (h : RowKit.Below wr.heap.size wr W) => HZ1.out W (below_then hl.out (Nat.le_refl _) (HWX.out W h)))
          by_cases hlt3 : j ≤ 2
          · have hd : decide ((j : Int) ≤ 2) = true := decide_eq_true (by omega)
            obtain ⟨L, hL⟩ : ∃ L, L = scanF (leftOf (c0.all ++ lb)) (j : Int) ⟨#[]⟩ ⟨#[255]⟩ phys := ⟨_, rfl⟩
            have HSC := Lib.hid (fun (v : Value) (W : World) (hv : IsC (leftOf (c0.all ++ lb)) v W) => show Calls Tryz.prog 45 #[v, .int .i64 j, .string ⟨#[]⟩, .string ⟨#[255]⟩, .int .i64 phys] W (RowW W L) from by rw [hL]; exact c_scan (j : Int) phys _ _ hv HGL.out (by decide))
            have HSEE := Lib.hid (fun (v : Value) (W : World) (hv : MRow W v (setRo RA)) => show Calls Tryz.prog 43 #[v, .int .i64 j, .string ⟨#[]⟩, .string ⟨#[255]⟩, .int .i64 phys] W (RowW W L) from by
              rw [hL, HKP.out, ← see_left RA (la ++ lb) HER2.out]
              exact see09_any v (setRo RA) (j : Int) _ _ phys W hv (setRo_over fun y hy => (HOV.out y hy).over) (by have := (setRo_spec RA).2.2; have := HNRL.out; omega))
            have HLL := Lib.hid (show L.length ≤ 50 from by rw [hL]; exact scan_len HGL.out _ _ _ _)
            have HEQ := Lib.hid (show eqWs L L = true from (eqWs_iff L L).2 rfl)
            clear hL
            have j0 : (0 : Int) ≤ (j : Int) := by omega
            go_wp2_with fail
            refine wp_region_told [] 12 [false, false, false, false, false, false, false, false, false, false, false, false, false, false, false, false, false, false, false, false, false, false, false, false, false, false, false, false, false, false, false, false, false, false, false, false, false, false, false, false, false, false, false, false, false, false, false, false, false, false, false, false, false, false, false, false, false, false, false, false, false, false, false, false, false, false, false, false, false, false, false, false, false, false, false, false, false, false, true, true, true, true, true, true, true, true, true, true, true, true, false, false]
              [sLit (.agg #[.slice p7 q7 r7, .slice p8 q8 r8, .slice p9 q9 r9]),
    sLit (.int .i64 j),
    sLit (.pointer (some ⟨n0, 6, none⟩)),
    sLit (.int .i64 phys),
    sOne (fun v W => WRow W v L) (fun _ _ _ h hb => h.below hb),
    sLit (.slice ro nr rc),
    sOne (fun v W => MRow W v (setRo RA)) (fun _ _ _ h hb => h.below hb),
    sLit (.int .i64 j),
    sLit (.pointer (some ⟨n0, 6, none⟩)),
    sLit (.int .i64 phys),
    sOne (fun v W => WRow W v L) (fun _ _ _ h hb => h.below hb),
    sLit (.bool true)] (by kernel_rfl) (by kernel_rfl) (by kernel_rfl) (fun F hF => ?_)
            simp only [over, overL, Nat.reduceAdd] at hF
            obtain rfl := funext hF
            clear hF
            refine ⟨⟨?_, ?_, ?_, ?_, ?_, ?_, ?_, ?_, ?_, ?_, ?_, ?_, trivial⟩, ?_⟩
            · intro V W hb hd K hK _
              clear hd
              obtain ⟨-, s0, s1, s2, -⟩ := (HC7.out.below (HWX.out W hb))
              go_wp2_with fail
              refine hK _ _ ?_ ?_ ?_ ?_
              · rfl
              · exact Below.refl _ _
              · exact rfl
              · trivial
            · intro V W hb hd K hK _
              clear hd
              go_wp2_with fail
              refine hK _ _ ?_ ?_ ?_ ?_
              · rfl
              · exact Below.refl _ _
              · exact rfl
              · trivial
            · intro V W hb hd K hK _
              clear hd
              go_wp2_with fail
              refine hK _ _ ?_ ?_ ?_ ?_
              · rfl
              · exact Below.refl _ _
              · exact rfl
              · trivial
            · intro V W hb hd K hK _
              have h2 : (V 80) = .pointer (some ⟨n0, 6, none⟩) := hd 2 (by kernel_rfl)
              clear hd
              obtain ⟨z0, z1, z2, z3, z4, z5, z6⟩ := HZ5.out W hb
              go_wp2_with fail
              refine hK _ _ ?_ ?_ ?_ ?_
              · rfl
              · exact Below.refl _ _
              · exact rfl
              · trivial
            · intro V W hb hd K hK _
              have h0 : (V 78) = .agg #[.slice p7 q7 r7, .slice p8 q8 r8, .slice p9 q9 r9] := hd 0 (by kernel_rfl)
              have h1 : (V 79) = .int .i64 j := hd 1 (by kernel_rfl)
              have h3 : (V 81) = .int .i64 phys := hd 3 (by kernel_rfl)
              clear hd
              go_wp2_with fail
              refine (HSC.out _ W (HL7.out.below (HWX.out W hb)).is).mono ?_
              rintro e w1 ⟨v1, rfl, hv1, hb1⟩
              go_wp2_with fail
              refine hK _ _ ?_ ?_ ?_ ?_
              · rfl
              · exact hb1
              · exact hv1
              · trivial
            · intro V W hb hd K hK _
              clear hd
              go_wp2_with fail
              refine hK _ _ ?_ ?_ ?_ ?_
              · rfl
              · exact Below.refl _ _
              · exact rfl
              · trivial
            · intro V W hb hd K hK _
              have h5 : (V 83) = .slice ro nr rc := hd 5 (by kernel_rfl)
              clear hd
              go_wp2_with fail
              refine (right09_any (.slice ro nr rc) RA W (HTW.out W (below_then hl.out (Nat.le_refl _) (HWX.out W hb))) (HRA.out.below (HWX.out W hb)) HOV.out (by have := HNRL.out; omega)).mono ?_
              rintro e w1 ⟨v1, rfl, hv1, hb1⟩
              go_wp2_with fail
              refine hK _ _ ?_ ?_ ?_ ?_
              · rfl
              · exact hb1
              · exact hv1
              · trivial
            · intro V W hb hd K hK _
              clear hd
              go_wp2_with fail
              refine hK _ _ ?_ ?_ ?_ ?_
              · rfl
              · exact Below.refl _ _
              · exact rfl
              · trivial
            · intro V W hb hd K hK _
              clear hd
              go_wp2_with fail
              refine hK _ _ ?_ ?_ ?_ ?_
              · rfl
              · exact Below.refl _ _
              · exact rfl
              · trivial
            · intro V W hb hd K hK _
              have h8 : (V 86) = .pointer (some ⟨n0, 6, none⟩) := hd 8 (by kernel_rfl)
              clear hd
              obtain ⟨z0, z1, z2, z3, z4, z5, z6⟩ := HZ5.out W hb
              go_wp2_with fail
              refine hK _ _ ?_ ?_ ?_ ?_
              · rfl
              · exact Below.refl _ _
              · exact rfl
              · trivial
            · intro V W hb hd K hK _
              have h6 : MRow W (V 84) (setRo RA) := hd 6 (by kernel_rfl)
              have h7 : (V 85) = .int .i64 j := hd 7 (by kernel_rfl)
              have h9 : (V 87) = .int .i64 phys := hd 9 (by kernel_rfl)
              clear hd
              go_wp2_with fail
              refine (HSEE.out _ W h6).mono ?_
              rintro e w1 ⟨v1, rfl, hv1, hb1⟩
              go_wp2_with fail
              refine hK _ _ ?_ ?_ ?_ ?_
              · rfl
              · exact hb1
              · exact hv1
              · trivial
            · intro V W hb hd K hK _
              have h4 : WRow W (V 82) L := hd 4 (by kernel_rfl)
              have h10 : WRow W (V 88) L := hd 10 (by kernel_rfl)
              clear hd
              go_wp2_with fail
              refine ((by have h := same09_any _ _ L L W h4 h10 (by have := HLL.out; omega) (by have := HLL.out; omega); rw [HEQ.out] at h; exact h : Calls _ _ _ W (RetB true W))).mono ?_
              rintro e w1 ⟨rfl, hb1⟩
              go_wp2_with fail
              refine hK _ _ ?_ ?_ ?_ ?_
              · rfl
              · exact hb1
              · exact rfl
              · trivial
            · intro V W hb hd hap
              have h11 : (V 89) = .bool true := hd 11 (by decide)
              clear hd hap
              simp only [List.drop_succ_cons, List.drop_zero]
              have HBz := Lib.hid (HWX.out W hb)
              clear hb
              go_wp2_with fail
              go_roundw
              case rel => exact ⟨j + 1, by omega, by omega, by go_num, HBz⟩
              case measure => simp [intOf]; omega
          · have hd : decide ((j : Int) ≤ 2) = false := decide_eq_false (by omega)
            go_wp2_with fail
            refine (alive10_any _ (HTW.out _ (below_then hl.out (Nat.le_refl _) hl5.out))).mono ?_
            rintro e w9 ⟨rfl, hb9⟩
            have HB9 := Lib.hid (below_then HB1.out (Nat.le_refl _) (below_then hl.out (Nat.le_refl _) (below_then hl5.out (Nat.le_refl _) hb9)))
            clear hb9
            go_wp2_with fail
            go_ret
            exact ⟨rfl, HB9.out⟩
end Go.Proofs.YtipoeigehabbmaaGreatDoor.Mut
