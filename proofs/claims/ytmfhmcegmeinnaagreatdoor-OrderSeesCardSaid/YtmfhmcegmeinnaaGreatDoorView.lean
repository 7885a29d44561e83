/- The walks of layer 9 (view): seen, live, rows. -/
import Derived.Test.YtmfhmcegmeinnaaGreatDoorIterKeep
import Derived.Test.YtmfhmcegmeinnaaGreatDoorSup
import Derived.Test.YtmfhmcegmeinnaaGreatDoorSweep
import Derived.Test.YtmfhmcegmeinnaaGreatDoorViewSee
set_option linter.unusedSimpArgs false
set_option linter.unusedVariables false
namespace Go.Proofs.YtmfhmcegmeinnaaGreatDoor.Mut
open Go.RowKit Go.Sort Go.Proofs.YtmfhmcegmeinnaaGreatDoor.Ord
set_option linter.unusedSectionVars false
variable [Inhabited Lim]

set_option maxHeartbeats 1000000 in
set_option maxRecDepth 100000 in
theorem seen_any (x : Ro) (t : Int) (w : World) (hx : ∃ ao n cap, x.2 = .slice ao n cap) : Calls Tryz.prog 105 #[vM x, .int .i64 t] w (RetB (seenB x.1 t) w) := by
  obtain ⟨xo, xn, xc, ex⟩ := hx
  obtain ⟨⟨at1, ak1, akey1, afin1, aval1, aex1, ⟨ap1, al1, aw1⟩, aov1⟩, av1⟩ := x
  simp only [] at ex
  subst ex
  unfold vM
  simp only []
  have HB := Lib.hid ((Below.refl _ w).alloc (Nat.le_refl _) (.cells #[.int .i64 at1, .int .i64 ak1, .string akey1, .string afin1, .string aval1, .int .i64 aex1, .int .i64 ap1, .int .i64 al1, .int .i64 aw1, .slice xo xn xc] 51))
  obtain ⟨Q, hQ⟩ : ∃ Q, Q = seenB ⟨at1, ak1, akey1, afin1, aval1, aex1, ⟨ap1, al1, aw1⟩, aov1⟩ t := ⟨_, rfl⟩
  rw [← hQ]
  have HQ := Lib.hid hQ
  clear hQ
  go_enter Tryz.func105, Tryz.ntmps105
  by_cases h1 : ak1 = 1
  · have hk := eq_flag h1
    by_cases h2 : aex1 = 0
    · have hk2 := eq_flag h2
      have HR := Lib.hid (show true = Q by rw [HQ.out]; simp [seenB, h1, h2])
      subst h1
      subst h2
      go_wp2_with fail
      go_ret
      exact ⟨ret_bool HR.out, HB.out⟩
    · have hk2 := ne_flag h2
      by_cases h3 : t < aex1
      · have hd3 : decide (t < aex1) = true := decide_eq_true h3
        have HR := Lib.hid (show true = Q by rw [HQ.out]; simp [seenB, h1, h3])
        subst h1
        go_wp2_with fail
        go_ret
        exact ⟨ret_bool HR.out, HB.out⟩
      · have hd3 : decide (t < aex1) = false := decide_eq_false h3
        have HR := Lib.hid (show false = Q by rw [HQ.out]; simp [seenB, h2, h3])
        subst h1
        go_wp2_with fail
        go_ret
        exact ⟨ret_bool HR.out, HB.out⟩
  · have hk := ne_flag h1
    have HR := Lib.hid (show false = Q by rw [HQ.out]; simp [seenB, h1])
    go_wp2_with fail
    go_ret
    exact ⟨ret_bool HR.out, HB.out⟩

set_option maxHeartbeats 1000000 in
set_option maxRecDepth 100000 in
theorem ask_table (t : Int) (c : Nat) (row : Option Nat) (w : World) (hc : c < w.heap.size) (h0 : w.cell? ⟨c, 0, none⟩ = some (.int .i64 t)) (hr : row ≠ some c) :
    Asks w row 160 #[.pointer (some ⟨c, 0, none⟩)] (fun x => !decide (x.table = t)) := by
  intro x w1 hg hx
  have hc1 : c < w1.heap.size := Nat.lt_of_lt_of_le hc hg.size
  have s0 := (World.cell?_of_block (a := ⟨c, 0, none⟩) (hg.block c hc (fun e => hr e.symm))).trans h0
  simp only []
  clear hr hg h0 hc
  obtain ⟨ao, n, cap, e1⟩ := hx
  obtain ⟨⟨at1, ak1, akey1, afin1, aval1, aex1, ⟨ap1, al1, aw1⟩, aov1⟩, av1⟩ := x
  simp only [] at e1
  subst e1
  unfold vM
  simp only []
  have hB := Lib.hid ((Below.refl _ w1).alloc (Nat.le_refl _) (.cells #[.int .i64 at1, .int .i64 ak1, .string akey1, .string afin1, .string aval1, .int .i64 aex1, .int .i64 ap1, .int .i64 al1, .int .i64 aw1, .slice ao n cap] 51))
  obtain ⟨Q, hQ⟩ : ∃ Q, Q = decide (at1 = t) := ⟨_, rfl⟩
  have hQ2 : (at1 != t) = !Q := by rw [hQ]; by_cases h : at1 = t <;> simp [h]
  rw [← hQ]
  clear hQ
  go_enter Tryz.func160, Tryz.ntmps160
  cases Q
  all_goals
    go_wp2_with fail
    go_ret
    exact ⟨rfl, hB.out⟩

set_option maxHeartbeats 1000000 in
set_option maxRecDepth 100000 in
theorem ask_live (w0 : World) (v : Value) (c : Con) (n k : Nat) (row : Option Nat) (w : World) (hv : IsC c v w0) (hG : Good c n) (hn : n ≤ 100000) (hb : RowKit.Below w0.heap.size w0 w) (hrow : ∀ j, row = some j → w0.heap.size ≤ j) (hk : k < w.heap.size) (hrk : row ≠ some k)
    (h3 : ∀ a b d, v = .agg #[a, b, d] → C3 w k a b d) :
    Asks w row 161 #[.pointer (some ⟨k, 0, none⟩)] (fun x => supF c x.key x.at_) := by
  intro x w1 hg hx
  have hb1 : RowKit.Below w0.heap.size w0 w1 := ⟨hg.os.trans hb.os, hg.tape.trans hb.tape, hg.output.trans hb.output, Nat.le_trans hb.size hg.size, fun i hi => (hg.block i (Nat.lt_of_lt_of_le hi hb.size) (fun e => by have := hrow i e.symm; omega)).trans (hb.block i hi)⟩
  obtain ⟨o1, n1, k1, o2, n2, k2, o3, n3, k3, rfl, hl⟩ := hv.form
  have hC : C3 w1 k (.slice o1 n1 k1) (.slice o2 n2 k2) (.slice o3 n3 k3) := (h3 _ _ _ rfl).grown hg hrk
  have HL := Lib.hid (hl.below hb1)
  have HS := Lib.hid (fun W (hW : RowKit.Below w1.heap.size w1 W) => c_sup (n := n) x.1.key x.1.at_ (HL.out.is.below hW) hG hn)
  have HC := Lib.hid hC
  clear hb1 hg hb hrow hrk h3 hl hv hC hk
  obtain ⟨ao, m, cap, e1⟩ := hx
  obtain ⟨⟨at1, ak1, akey1, afin1, aval1, aex1, ⟨ap1, al1, aw1⟩, aov1⟩, av1⟩ := x
  simp only [] at e1
  subst e1
  simp only [] at HS ⊢
  obtain ⟨Q, hQ⟩ : ∃ Q, Q = supF c akey1 ⟨ap1, al1, aw1⟩ := ⟨_, rfl⟩
  rw [← hQ] at HS ⊢
  clear hQ
  unfold vM
  unfold vS at HS
  simp only [] at HS ⊢
  have hB := Lib.hid ((Below.refl _ w1).alloc (Nat.le_refl _) (.cells #[.int .i64 at1, .int .i64 ak1, .string akey1, .string afin1, .string aval1, .int .i64 aex1, .int .i64 ap1, .int .i64 al1, .int .i64 aw1, .slice ao m cap] 51))
  obtain ⟨hkl, s0, s1, s2, -⟩ := HC.out
  go_enter Tryz.func161, Tryz.ntmps161
  go_wp2_with fail
  refine (HS.out _ hB.out).mono ?_
  rintro e w2 ⟨rfl, hb2⟩
  have HB2 := Lib.hid (below_then hB.out (Nat.le_refl _) hb2)
  clear hb2
  go_wp2_with fail
  go_ret
  exact ⟨rfl, HB2.out⟩

/-- The mutations of a table that nothing supersedes, in a row of the call's own. -/
def LiveP (w : World) (c : Con) (t : Int) (e : Ending) (w' : World) : Prop :=
  ∃ (u : Value) (R : List Ro), e = .returned u ∧ w'.ownsRow w.heap.size 51 10 u R.length (R.flatMap enM) ∧ R.map (·.1) = liveF c t ∧ (∀ x ∈ R, ∃ ao n cap, x.2 = .slice ao n cap) ∧ RowKit.Below w.heap.size w w'

set_option maxHeartbeats 4000000 in
set_option maxRecDepth 100000 in
theorem live_any (v : Value) (c : Con) (n : Nat) (t : Int) (w : World) (hv : IsC c v w) (hG : Good c n) (hn : n ≤ 100000) :
    Calls Tryz.prog 104 #[v, .int .i64 t] w (LiveP w c t) := by
  obtain ⟨a, b, d, rfl, hl⟩ := hv
  obtain ⟨RA, eA, hA⟩ := hl.cells
  obtain ⟨RD, eD, hD⟩ := hl.sibs
  obtain ⟨o2, n2, k2, rfl⟩ := hl.wipes.slice
  obtain ⟨o1, k1, rfl, -, -⟩ := hA.form
  obtain ⟨o3, k3, rfl, -, -⟩ := hD.form
  have hln := hG.okc.lens
  have lA : RA.length ≤ 1000000 := by have h : c.cells.length = RA.length := by rw [← eA]; simp
                                      omega
  have lD : RD.length ≤ 1000000 := by have h : c.sibs.length = RD.length := by rw [← eD]; simp
                                      omega
  obtain ⟨W0, hW0⟩ : ∃ W0, W0 = (w.alloc (.cells #[.slice o1 RA.length k1, .slice o2 n2 k2, .slice o3 RD.length k3] 28)).alloc (.cells #[.int .i64 t] 23) := ⟨_, rfl⟩
  have hb0 : RowKit.Below w.heap.size w W0 := by rw [hW0]; exact ((Below.refl _ w).alloc (Nat.le_refl _) _).alloc (by simp) _
  have hP : C3 W0 w.heap.size (.slice o1 RA.length k1) (.slice o2 n2 k2) (.slice o3 RD.length k3) := by
    rw [hW0]
    exact (C3.new w _ _ _).below ((Below.refl _ _).alloc (Nat.le_refl _) _)
  have hT : W0.cell? ⟨w.heap.size + 1, 0, none⟩ = some (.int .i64 t) := by rw [hW0]; go_simp
  have hz : W0.heap.size = w.heap.size + 1 + 1 := by rw [hW0]; simp
  have HCA := Lib.hid (cloneM_any o1 k1 RA W0 (Lst.below hA.row hb0) (flatM_one hA.forms) lA)
  have HCD := Lib.hid (cloneM_any o3 k3 RD W0 (Lst.below hD.row hb0) (flatM_one hD.forms) lD)
  have HDA := Lib.hid (fun (W : World) (u : Value) (hW : RowKit.Below W0.heap.size W0 W) (ho : W.ownsRow W0.heap.size 51 10 u RA.length (RA.flatMap enM)) =>
    delete_any W0.heap.size u RA 160 #[.pointer (some ⟨w.heap.size + 1, 0, none⟩)] (fun x => !decide (x.table = t)) W ho hA.forms lA
      (ask_table t (w.heap.size + 1) _ W (by have := hW.size; omega) ((hW.cell (p := ⟨w.heap.size + 1, 0, none⟩) (show w.heap.size + 1 < W0.heap.size by omega)).trans hT) (fun e => by have := (ho.lt (w.heap.size + 1) e).1; omega))
      (enters_of Tryz.func160 (by kernel_rfl) rfl))
  have HDD := Lib.hid (fun (W : World) (u : Value) (hW : RowKit.Below W0.heap.size W0 W) (ho : W.ownsRow W0.heap.size 51 10 u RD.length (RD.flatMap enM)) =>
    delete_any W0.heap.size u RD 161 #[.pointer (some ⟨w.heap.size, 0, none⟩)] (fun x => supF c x.key x.at_) W ho hD.forms lD
      (ask_live w (.agg #[.slice o1 RA.length k1, .slice o2 n2 k2, .slice o3 RD.length k3]) c n w.heap.size _ W hl.is hG hn (below_then hb0 (Nat.le_refl _) hW) (fun j hj => by have := (ho.lt _ hj).1; omega) (by have := hW.size; omega) (fun e => by have := (ho.lt w.heap.size e).1; omega)
        (fun a b d e => by cases e; exact hP.below hW))
      (enters_of Tryz.func161 (by kernel_rfl) rfl))
  have HFA := Lib.hid hA.forms
  have HFD := Lib.hid hD.forms
  have HB0 := Lib.hid hb0
  have HW := Lib.hid hW0
  have HP := Lib.hid hP
  have HT := Lib.hid hT
  have HE := Lib.hid (And.intro eA eD)
  unfold OwnP at HCA HCD
  unfold DelP at HDA HDD
  obtain ⟨na, hna⟩ : ∃ k, k = RA.length := ⟨_, rfl⟩
  obtain ⟨nd, hnd⟩ : ∃ k, k = RD.length := ⟨_, rfl⟩
  rw [← hna] at HCA HDA HP HW ⊢
  rw [← hnd] at HCD HDD HP HW ⊢
  have HNA := Lib.hid hna
  have HND := Lib.hid hnd
  clear hA hD hl hln lA lD hb0 hP hT hz hW0 eA eD hna hnd
  go_enter Tryz.func104, Tryz.ntmps104
  go_upto_region 1 with fail
  rw [← HW.out]
  clear HW
  have t0 := HT.out
  obtain ⟨-, s0, s1, s2, -⟩ := HP.out
  by_cases ht : t = 2
  · have hk := eq_flag ht
    have HQ := Lib.hid (show liveF c t = (RD.filter fun x => !supF c x.1.key x.1.at_).map (·.1) by
      unfold liveF
      rw [if_pos ht, ← HE.out.2, List.filter_map]
      rfl)
    subst ht
    go_wp2_with fail
    refine HCD.out.mono ?_
    rintro e w1 ⟨u, rfl, ho, hb⟩
    obtain ⟨uo, uc, rfl⟩ := own_slice ho
    have HD1 := Lib.hid (HDD.out w1 _ hb ho)
    have HOB := Lib.hid (And.intro ho (below_then HB0.out (Nat.le_refl _) hb))
    have HB1 := Lib.hid hb
    clear ho hb
    go_wp2_with fail
    refine HD1.out.mono ?_
    rintro e w2 ⟨u2, rfl, ho2, hg2, -⟩
    have HF := Lib.hid (And.intro ho2 (HOB.out.2.grown hg2 HOB.out.2.size (fun k hk => Nat.le_trans HB0.out.size ((HOB.out.1.lt k hk).1))))
    clear ho2 hg2
    go_wp2_with fail
    go_ret
    exact ⟨_, _, rfl, own_base HF.out.1 HB0.out.size, HQ.out.symm, fun x hx => HFD.out x (List.mem_filter.1 hx).1, HF.out.2⟩
  · have hk := ne_flag ht
    have HQ := Lib.hid (show liveF c t = (RA.filter fun x => !!decide (x.1.table = t)).map (·.1) by
      unfold liveF
      rw [if_neg ht, ← HE.out.1, List.filter_map]
      simp only [Bool.not_not]
      rfl)
    go_wp2_with fail
    refine HCA.out.mono ?_
    rintro e w1 ⟨u, rfl, ho, hb⟩
    obtain ⟨uo, uc, rfl⟩ := own_slice ho
    have HD1 := Lib.hid (HDA.out w1 _ hb ho)
    have HOB := Lib.hid (And.intro ho (below_then HB0.out (Nat.le_refl _) hb))
    have HB1 := Lib.hid hb
    clear ho hb
    go_wp2_with fail
    refine HD1.out.mono ?_
    rintro e w2 ⟨u2, rfl, ho2, hg2, -⟩
    have HF := Lib.hid (And.intro ho2 (HOB.out.2.grown hg2 HOB.out.2.size (fun k hk => Nat.le_trans HB0.out.size ((HOB.out.1.lt k hk).1))))
    clear ho2 hg2
    go_wp2_with fail
    go_ret
    exact ⟨_, _, rfl, own_base HF.out.1 HB0.out.size, HQ.out.symm, fun x hx => HFA.out x (List.mem_filter.1 hx).1, HF.out.2⟩
end Go.Proofs.YtmfhmcegmeinnaaGreatDoor.Mut
