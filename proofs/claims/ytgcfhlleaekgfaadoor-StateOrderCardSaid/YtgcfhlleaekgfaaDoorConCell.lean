/- The walk of state.Content.cell (layer 8). -/
import Derived.Test.YtgcfhlleaekgfaaDoorConIns
import Derived.Deep.RegionHeld3
import Derived.Deep.RegionLaw
namespace Go.Proofs.YtgcfhlleaekgfaaDoor.Mut
open Go.RowKit Go.Sort Go.Proofs.YtgcfhlleaekgfaaDoor.Ord

/-- A content comes back: what is left, with a mutation more. -/
def AddP (w : World) (S : Mu → Prop) (m : Mu) (n : Nat) (e : Ending) (w' : World) : Prop :=
  ∃ a b d c, e = .returned (.agg #[a, b, d]) ∧ Lies w' a b d c ∧ Reps (fun y => S y ∨ y = m) c ∧ Okc c (n + 1) ∧ RowKit.Below w.heap.size w w'

set_option maxHeartbeats 4000000 in
set_option maxRecDepth 100000 in
theorem cell_at (ao bo dd : Option Addr) (na ac nb bc nd dc : Nat) (c : Con) (S : Mu → Prop) (n : Nat) (m : Mu) (xo : Option Addr) (xn xc : Nat) (w : World) (hc : Lies w (.slice ao na ac) (.slice bo nb bc) (.slice dd nd dc) c) (hR : Reps S c) (hO : Okc c n) (hn : n ≤ 100000)
    (hx : Over w (m, .slice xo xn xc)) (hr : rightF m = true) (hk : isC m) :
    Calls Tryd.prog 22 #[.agg #[.slice ao na ac, .slice bo nb bc, .slice dd nd dc], vM (m, .slice xo xn xc)] w (AddP w S m n) := by
  obtain ⟨l1, l2, l3⟩ := hO.lens
  obtain ⟨R, eR, hcells⟩ := hc.cells
  have hRl : R.length = c.cells.length := by rw [← eR]; simp
  obtain ⟨_, _, e0, -, -⟩ := hcells.form
  obtain ⟨rfl⟩ : na = R.length := by injection e0
  clear e0
  obtain ⟨na, hna⟩ : ∃ k, k = R.length := ⟨_, rfl⟩
  rw [← hna] at hc hcells hRl ⊢
  have HCov := Lib.hid (fun (W : World) (hW : RowKit.Below w.heap.size w W) => covered_any (.slice ao na ac) (.slice bo nb bc) (.slice dd nd dc) c.wipes m.key m.at_ W (hc.wipes.below hW) (by omega))
  have HPl := Lib.hid (fun (W : World) (hW : RowKit.Below w.heap.size w W) => place_any (.slice ao na ac) R m.key W (hcells.below hW) (by omega) (by rw [eR]; exact hR.rc))
  have hA := A0.of ((At.new (w.alloc (.cells #[.slice ao na ac, .slice bo nb bc, .slice dd nd dc] 25)) 34 (m, .slice xo xn xc)).below ((Below.refl _ _).alloc (by simp) (.cells #[.slice none 0 0, .slice none 0 0, .slice none 0 0] 25)))
  rw [World.size_alloc] at hA
  have hP := (((C3.new w (.slice ao na ac) (.slice bo nb bc) (.slice dd nd dc)).below ((Below.refl _ _).alloc (Nat.le_refl _) (.cells (enM (m, .slice xo xn xc)).toArray 34))).below ((Below.refl _ _).alloc (by simp) (.cells #[.slice none 0 0, .slice none 0 0, .slice none 0 0] 25)))
  have hT := C3.new ((w.alloc (.cells #[.slice ao na ac, .slice bo nb bc, .slice dd nd dc] 25)).alloc (.cells (enM (m, .slice xo xn xc)).toArray 34)) (.slice none 0 0) (.slice none 0 0) (.slice none 0 0)
  rw [World.size_alloc, World.size_alloc] at hT
  have HP := Lib.hid hP
  have HT := Lib.hid hT
  have HA := Lib.hid hA
  obtain ⟨C, hC⟩ : ∃ C, C = c.wipes.any (fun y => hitsB y m.key m.at_) := ⟨_, rfl⟩
  rw [← hC] at HCov
  have HCC := Lib.hid hC
  have HNA := Lib.hid hna
  have HLEN := Lib.hid (show R.length ≤ 1000000 by omega)
  have HL := Lib.hid hc
  have HR := Lib.hid hR
  have HO := Lib.hid hO
  have HX := Lib.hid hx
  have HE := Lib.hid eR
  have HCE := Lib.hid hcells
  have HRR := Lib.hid hr
  have HK := Lib.hid hk
  clear hA hP hT hC hna hc hR hO hx eR hcells hr hk hRl
  obtain ⟨at1, ak1, akey1, afin1, aval1, aex1, ⟨ap1, al1, aw1⟩, aov1⟩ := m
  unfold vM
  unfold enM at HA HP HT
  simp only [] at HA HP HT HCov HPl ⊢
  go_enter Tryd.func22, Tryd.ntmps22
  go_wp2_with fail
  have hB := Lib.hid (((((Below.refl _ w).alloc (Nat.le_refl _) (.cells #[.slice ao na ac, .slice bo nb bc, .slice dd nd dc] 25)).alloc (by simp) (.cells #[.int .i64 at1, .int .i64 ak1, .string akey1, .string afin1, .string aval1, .int .i64 aex1, .int .i64 ap1, .int .i64 al1, .int .i64 aw1, .slice xo xn xc] 34))).alloc (by simp; omega) (.cells #[.slice none 0 0, .slice none 0 0, .slice none 0 0] 25))
  refine (HCov.out _ hB.out).mono ?_
  rintro e w1 ⟨rfl, hb⟩
  have HB1 := Lib.hid (below_then hB.out (Nat.le_refl _) hb)
  have HA1 := Lib.hid (HA.out.below hb)
  have HP1 := Lib.hid (HP.out.below hb)
  have HT1 := Lib.hid (HT.out.below hb)
  clear hb
  cases C
  · obtain ⟨-, p0, p1, p2, -⟩ := HP1.out
    obtain ⟨-, a0, a1, a2, a3, a4, a5, a6, a7, a8, a9⟩ := HA1.out
    simp only [] at a0 a1 a2 a3 a4 a5 a6 a7 a8 a9
    go_wp2_with fail
    refine (HPl.out _ HB1.out).mono ?_
    rintro e w2 ⟨i, hi, rfl, hb⟩
    have HI := Lib.hid hi
    have HB2 := Lib.hid (below_then HB1.out (Nat.le_refl _) hb)
    have HA2 := Lib.hid (HA1.out.below hb)
    have HP2 := Lib.hid (HP1.out.below hb)
    have HT2 := Lib.hid (HT1.out.below hb)
    clear hi hb p0 p1 p2 a0 a1 a2 a3 a4 a5 a6 a7 a8 a9
    obtain ⟨-, p0, p1, p2, q0, q1, q2⟩ := HP2.out
    obtain ⟨-, a0, a1, a2, a3, a4, a5, a6, a7, a8, a9⟩ := HA2.out
    simp only [] at a0 a1 a2 a3 a4 a5 a6 a7 a8 a9
    obtain ⟨D, hD⟩ : ∃ D, D = isAt (fun y => cmpS y.key akey1) (R.map (·.1)) i := ⟨_, rfl⟩
    rw [← hD]
    have HD := Lib.hid hD
    clear hD
    have HCl : Hid (∀ W, RowKit.Below w2.heap.size w2 W → Calls Tryd.prog 40 #[.slice ao na ac] W (OwnP 34 10 enM W R)) := Lib.hid (fun W hW => by
      have h := (HCE.out.below HB2.out).below hW
      have hl : na = R.length := HNA.out
      rw [hl] at h ⊢
      exact cloneM_any ao ac R W h.row (flatM_one h.forms) HLEN.out)
    have hs : w.heap.size + 1 + 1 < w2.heap.size := HT2.out.lt
    cases D
    · go_wp2_with fail
      have HIL := Lib.hid (show i ≤ R.length from by have := HI.out.1; simpa using this)
      have HFO := Lib.hid (fun y hy => (HCE.out.forms y hy))
      have HNW : Hid (∀ z : World, (z.alloc (.cells #[.int .i64 at1, .int .i64 ak1, .string akey1, .string afin1, .string aval1, .int .i64 aex1, .int .i64 ap1, .int .i64 al1, .int .i64 aw1, .slice xo xn xc] 34)).heap[z.heap.size]? = some (.cells ⟨enM (⟨at1, ak1, akey1, afin1, aval1, aex1, ⟨ap1, al1, aw1⟩, aov1⟩, .slice xo xn xc)⟩ 34 (0, 0))) := Lib.hid (fun z => heap_alloc_new z _)
      have n0 : ∀ o : Obj, (w2.alloc o).cell? ⟨w.heap.size, 0, none⟩ = some (.slice ao na ac) := fun o => (((Below.refl w2.heap.size w2).alloc (Nat.le_refl _) o).cell (p := ⟨w.heap.size, 0, none⟩) HP2.out.lt).trans p0
      go_region_law (first
        | (go_simp; go_at_call 40; (with_reducible refine (HCl.out _ ((Below.refl w2.heap.size w2).drew)).mono ?_); rintro e w3 ⟨v, rfl, hown, hb3⟩; have B3 := below_then ((Below.refl w2.heap.size w2).drew) (Nat.le_refl _) hb3; obtain ⟨-, p0, p1, p2, -⟩ := HP2.out.below B3; obtain ⟨-, a0, a1, a2, a3, a4, a5, a6, a7, a8, a9⟩ := HA2.out.below B3; simp only [] at a0 a1 a2 a3 a4 a5 a6 a7 a8 a9; have HOW := Lib.hid (own_base (n₀ := w2.heap.size) hown (by simp)); have HB3 := Lib.hid B3; clear hown B3 hb3)
        | (go_simp; go_at_call 40; (with_reducible refine (HCl.out _ (((Below.refl w2.heap.size w2).alloc (Nat.le_refl _) (.cells #[.int .i64 at1, .int .i64 ak1, .string akey1, .string afin1, .string aval1, .int .i64 aex1, .int .i64 ap1, .int .i64 al1, .int .i64 aw1, .slice xo xn xc] 34)).drew)).mono ?_); rintro e w3 ⟨v, rfl, hown, hb3⟩; have B3 := below_then (((Below.refl w2.heap.size w2).alloc (Nat.le_refl _) (.cells #[.int .i64 at1, .int .i64 ak1, .string akey1, .string afin1, .string aval1, .int .i64 aex1, .int .i64 ap1, .int .i64 al1, .int .i64 aw1, .slice xo xn xc] 34)).drew) (Nat.le_refl _) hb3; obtain ⟨-, p0, p1, p2, -⟩ := HP2.out.below B3; obtain ⟨-, a0, a1, a2, a3, a4, a5, a6, a7, a8, a9⟩ := HA2.out.below B3; simp only [] at a0 a1 a2 a3 a4 a5 a6 a7 a8 a9; have HOW := Lib.hid (own_base (n₀ := w2.heap.size) hown (by simp)); have HB3 := Lib.hid B3; have HVB := Lib.hid (fun k hk (e : k = w2.heap.size) => by have := (hown.lt k hk).1; simp at this; omega : ∀ k, v.ownBlock = some k → k ≠ w2.heap.size); have HBL := Lib.hid ((hb3.block w2.heap.size (by simp)).trans (HNW.out w2)); clear hown B3 hb3)
        | (go_simp; go_at_call 39; (with_reducible refine (put_any w2 _ w2.heap.size v w3.heap.size R i (⟨at1, ak1, akey1, afin1, aval1, aex1, ⟨ap1, al1, aw1⟩, aov1⟩, .slice xo xn xc) (Nat.le_refl _) (HOW.out.alloc _) (HB3.out.alloc HB3.out.size _) HIL.out HLEN.out (HNW.out w3) (fun k hk e => by have := (HOW.out.lt k hk).2; omega) HFO.out ⟨_, _, _, rfl⟩).mono ?_); rintro e w4 ⟨g, cap, rfl, hl4, hg4, B4⟩; have HL4 := Lib.hid hl4; have HB4 := Lib.hid B4; have HG4 := Lib.hid hg4; obtain ⟨-, p0, p1, p2, q0, q1, q2⟩ := HP2.out.below B4; obtain ⟨-, a0, a1, a2, a3, a4, a5, a6, a7, a8, a9⟩ := HA2.out.below B4; simp only [] at a0 a1 a2 a3 a4 a5 a6 a7 a8 a9; clear hl4 hg4 B4)
        | (go_simp; go_at_call 39; (with_reducible refine (put_any w2 _ w2.heap.size v w2.heap.size R i (⟨at1, ak1, akey1, afin1, aval1, aex1, ⟨ap1, al1, aw1⟩, aov1⟩, .slice xo xn xc) (Nat.le_refl _) (HOW.out) (HB3.out) HIL.out HLEN.out (HBL.out) (HVB.out) HFO.out ⟨_, _, _, rfl⟩).mono ?_); rintro e w4 ⟨g, cap, rfl, hl4, hg4, B4⟩; have HL4 := Lib.hid hl4; have HB4 := Lib.hid B4; have HG4 := Lib.hid hg4; obtain ⟨-, p0, p1, p2, q0, q1, q2⟩ := HP2.out.below B4; obtain ⟨-, a0, a1, a2, a3, a4, a5, a6, a7, a8, a9⟩ := HA2.out.below B4; simp only [] at a0 a1 a2 a3 a4 a5 a6 a7 a8 a9; clear hl4 hg4 B4))
      all_goals
        clear a0 a1 a2 a3 a4 a5 a6 a7 a8 a9
        obtain ⟨tl, t0, t1, t2, f0, f1, f2⟩ := HT2.out.below HB4.out
        go_wp2_with fail
        have HN : Hid (w.heap.size ≠ w.heap.size + 1 + 1) := Lib.hid (by omega)
        obtain ⟨-, e0, e1, e2, -⟩ := c3_put ((HT2.out.below HB4.out).other (u := .slice (some ⟨g, 0, none⟩) (R.length + 1) cap) (o := 0) HN.out) (.slice (some ⟨g, 0, none⟩) (R.length + 1) cap) (.slice bo nb bc) (.slice dd nd dc)
        refine bodyPost_ret (v := .agg #[.slice (some ⟨g, 0, none⟩) (R.length + 1) cap, .slice bo nb bc, .slice dd nd dc]) (by simp [results, Tryd.f22, go_sem, e0, e1, e2]) rfl ?_
        have hb4 := below_then HB2.out (Nat.le_refl _) HB4.out
        have hbf := c3_put_below (hb4.setCell (p := ⟨w.heap.size, 0, none⟩) (Nat.le_refl _) (.slice (some ⟨g, 0, none⟩) (R.length + 1) cap)) (k := w.heap.size + 1 + 1) (by omega) (.slice (some ⟨g, 0, none⟩) (R.length + 1) cap) (.slice bo nb bc) (.slice dd nd dc)
        have hg : w2.heap.size ≤ g := HG4.out
        have hlf := Lst.kept HL4.out (w' := ((((w4.setCell ⟨w.heap.size, 0, none⟩ (.slice (some ⟨g, 0, none⟩) (R.length + 1) cap)).setCell ⟨w.heap.size + 1 + 1, 0, none⟩ (.slice (some ⟨g, 0, none⟩) (R.length + 1) cap)).setCell ⟨w.heap.size + 1 + 1, 1, none⟩ (.slice bo nb bc)).setCell ⟨w.heap.size + 1 + 1, 2, none⟩ (.slice dd nd dc))) (fun o => by
          rw [World.cell?_setCell_far _ _ _ _ (by show _ ≠ _; simp only []; omega), World.cell?_setCell_far _ _ _ _ (by show _ ≠ _; simp only []; omega), World.cell?_setCell_far _ _ _ _ (by show _ ≠ _; simp only []; omega), World.cell?_setCell_far _ _ _ _ (by show _ ≠ _; simp only []; omega)]) (by simp)
        have hp := HI.out
        have hno : ∀ y ∈ c.wipes, ¬ hits y akey1 ⟨ap1, al1, aw1⟩ := fun y hy h => by
          have h1 := List.any_eq_false.1 HCC.out.symm y hy
          exact h1 ((hits_iff _ _ _).1 h)
        have hd := HD.out.symm
        rw [HE.out] at hp hd
        exact ⟨_, _, _, ⟨c.cells.take i ++ ⟨at1, ak1, akey1, afin1, aval1, aex1, ⟨ap1, al1, aw1⟩, aov1⟩ :: c.cells.drop i, c.wipes, c.sibs⟩, rfl, ⟨reads_put HCE.out HE.out HX.out hlf hbf, HL.out.wipes.below hbf, HL.out.sibs.below hbf⟩, HR.out.cell_put (fit_of HRR.out) HK.out hno hp hd, HO.out.cells HRR.out (fun y hy => mem_take_drop.1 hy) (len_put _ _ _), hbf⟩
    · have hcr := (HCE.out.below HB2.out)
      obtain ⟨y, hy, hy0⟩ := isAt_some HD.out.symm
      rw [List.getElem?_map] at hy
      obtain ⟨z, hz, rfl⟩ : ∃ z, R[i]? = some z ∧ z.1 = y := by
        cases hzz : R[i]? with
        | none => rw [hzz] at hy; cases hy
        | some z => rw [hzz] at hy; exact ⟨z, rfl, by injection hy⟩
      have hkey : z.1.key = akey1 := (Tot.str.zero _ _).1 hy0
      have hil : i < R.length := (List.getElem?_eq_some_iff.1 hz).1
      obtain ⟨zb, zoff, rfl, hzat⟩ := hcr.at_ hz
      have hzo := hcr.over z (List.mem_of_getElem? hz)
      obtain ⟨zo, zc, ze, -, -⟩ := hzo.form
      have HCmp := Lib.hid (fun (W : World) (hW : RowKit.Below w2.heap.size w2 W) => compare_any z (⟨at1, ak1, akey1, afin1, aval1, aex1, ⟨ap1, al1, aw1⟩, aov1⟩, .slice xo xn xc) W (hzo.below hW) ((HX.out.below HB2.out).below hW) (small_right (HO.out.right _ (Con.mem_all.2 (Or.inl (by rw [← HE.out]; exact List.mem_map.2 ⟨z, List.mem_of_getElem? hz, rfl⟩))))).over (small_right HRR.out).over)
      obtain ⟨hzlt, z0, z1, z2, z3, z4, z5, z6, z7, z8, z9⟩ := hzat
      have HKEY := Lib.hid hkey
      have HZ := Lib.hid hz
      have HIL := Lib.hid hil
      have hia : (0 : Int) ≤ (i : Int) := by omega
      have hib : (i : Int) < (na : Int) := by have := HNA.out; omega
      obtain ⟨Cm, hCm⟩ : ∃ q, q = muC z.1 ⟨at1, ak1, akey1, afin1, aval1, aex1, ⟨ap1, al1, aw1⟩, aov1⟩ := ⟨_, rfl⟩
      rw [← hCm] at HCmp
      have HCM := Lib.hid hCm
      clear hCm hkey hz hil hy hy0 hzo hcr
      obtain ⟨⟨at2, ak2, akey2, afin2, aval2, aex2, ⟨ap2, al2, aw2⟩, aov2⟩, av2⟩ := z
      simp only [] at ze z0 z1 z2 z3 z4 z5 z6 z7 z8 z9 HCmp
      obtain ⟨zn, hzn⟩ : ∃ k, k = aov2.length := ⟨_, rfl⟩
      rw [← hzn] at ze
      subst ze
      clear hzn
      unfold vM at HCmp
      simp only [] at HCmp
      go_wp2_with fail
      have hs0 : w.heap.size < w2.heap.size := by omega
      have hs1 : w.heap.size + 1 < w2.heap.size := by omega
      refine wp_region_calm (by kernel_rfl) (by kernel_rfl) ?_
      repeat (go_big_quiet_step ((go_at_call 17; exact calm ((HCmp.out _ (BW.below _)).mono fun _ _ h => ⟨h.1, h.2.below⟩))))
      refine wpQuiet_nil ?_
      rintro _ ⟨y, rfl⟩
      have HBy := Lib.hid (below_then HB2.out (Nat.le_refl _) y.below)
      have HPy := Lib.hid (HP2.out.below y.below)
      have HTy := Lib.hid (HT2.out.below y.below)
      have HAy := Lib.hid (HA2.out.below y.below)
      have HWy := Lib.hid y.below
      obtain ⟨W, hW⟩ : ∃ W, W = y.at := ⟨_, rfl⟩
      rw [← hW] at HBy HPy HTy HAy HWy ⊢
      clear hW y p0 p1 p2 q0 q1 q2 a0 a1 a2 a3 a4 a5 a6 a7 a8 a9 z0 z1 z2 z3 z4 z5 z6 z7 z8 z9
      by_cases hlt : Cm < 0
      · obtain ⟨pl, p0, p1, p2, q0, q1, q2⟩ := HPy.out
        go_wp2_with fail
        refine (HCl.out _ HWy.out).mono ?_
        rintro e w3 ⟨v, rfl, hown, hb3⟩
        obtain ⟨g, cap, spare, rfl, hg1, hg2, hg3, hg4, hg5, hg6, hg7⟩ := own_whole hown (by have := HIL.out; omega)
        have HBB := Lib.hid (below_then HBy.out (Nat.le_refl _) hb3)
        have hP3 := HPy.out.below hb3
        have HT3 := Lib.hid (HTy.out.below hb3)
        have HA3 := Lib.hid (HAy.out.below hb3)
        have hsz := HTy.out.lt
        have hnH : w.heap.size ≠ g := by omega
        have hnT : w.heap.size + 1 + 1 ≠ g := by omega
        have hHH : w.heap.size ≠ w.heap.size + 1 + 1 := by omega
        obtain ⟨-, r0, r1, r2, u0, u1, u2⟩ := hP3
        obtain ⟨-, a0, a1, a2, a3, a4, a5, a6, a7, a8, a9⟩ := HA3.out
        simp only [] at a0 a1 a2 a3 a4 a5 a6 a7 a8 a9
        have hhp : (w3.setCell ⟨w.heap.size, 0, none⟩ (.slice (some ⟨g, 0, none⟩) R.length cap)).heap[g]? = some (.cells ⟨R.flatMap enM ++ spare⟩ 34 (0, 0)) := (heap_setCell_far _ _ _ _ hnH).trans hg3
        have hP5 : C3 ((w3.setCell ⟨w.heap.size, 0, none⟩ (.slice (some ⟨g, 0, none⟩) R.length cap)).setRow g ⟨splice (R.flatMap enM ++ spare) (i * 10) (enM (⟨at1, ak1, akey1, afin1, aval1, aex1, ⟨ap1, al1, aw1⟩, aov1⟩, .slice xo xn xc))⟩) w.heap.size (.slice (some ⟨g, 0, none⟩) R.length cap) (.slice bo nb bc) (.slice dd nd dc) := (c3_one (HPy.out.below hb3) (.slice (some ⟨g, 0, none⟩) R.length cap)).row hnH
        have hT5 : C3 ((w3.setCell ⟨w.heap.size, 0, none⟩ (.slice (some ⟨g, 0, none⟩) R.length cap)).setRow g ⟨splice (R.flatMap enM ++ spare) (i * 10) (enM (⟨at1, ak1, akey1, afin1, aval1, aex1, ⟨ap1, al1, aw1⟩, aov1⟩, .slice xo xn xc))⟩) (w.heap.size + 1 + 1) (.slice none 0 0) (.slice none 0 0) (.slice none 0 0) := (HT3.out.other hHH).row hnT
        have hrow5 := setRow_heap (w3.setCell ⟨w.heap.size, 0, none⟩ (.slice (some ⟨g, 0, none⟩) R.length cap)) g ⟨R.flatMap enM ++ spare⟩ ⟨splice (R.flatMap enM ++ spare) (i * 10) (enM (⟨at1, ak1, akey1, afin1, aval1, aex1, ⟨ap1, al1, aw1⟩, aov1⟩, .slice xo xn xc))⟩ _ _ hhp
        have hbel5 := below_setRow ((below_then HBy.out (Nat.le_refl _) hb3).setCell (p := ⟨w.heap.size, 0, none⟩) (Nat.le_refl _) (.slice (some ⟨g, 0, none⟩) R.length cap)) g (by omega) ⟨splice (R.flatMap enM ++ spare) (i * 10) (enM (⟨at1, ak1, akey1, afin1, aval1, aex1, ⟨ap1, al1, aw1⟩, aov1⟩, .slice xo xn xc))⟩
        have HP5 := Lib.hid hP5
        have HT5 := Lib.hid hT5
        have HR5 := Lib.hid hrow5
        have HB5 := Lib.hid hbel5
        clear hP5 hT5 hrow5 hbel5
        have HHP := Lib.hid hhp
        have HFIT : Hid (i * 10 + (enM (⟨at1, ak1, akey1, afin1, aval1, aex1, ⟨ap1, al1, aw1⟩, aov1⟩, .slice xo xn xc)).length ≤ (R.flatMap enM ++ spare).length) := Lib.hid (by have := HIL.out; rw [enM_len, List.length_append, flatMap_len enM_len]; omega)
        have HONE : Hid (∀ u ∈ enM (⟨at1, ak1, akey1, afin1, aval1, aex1, ⟨ap1, al1, aw1⟩, aov1⟩, .slice xo xn xc), u.oneCell' = true) := Lib.hid (by have := flatM_one (l := [((⟨at1, ak1, akey1, afin1, aval1, aex1, ⟨ap1, al1, aw1⟩, aov1⟩, .slice xo xn xc) : Ro)]) (fun y hy => by rw [List.mem_singleton.1 hy]; exact ⟨xo, xn, xc, rfl⟩); simpa using this)
        have hib2 : (i : Int) < (R.length : Int) := by have := HIL.out; omega
        have HG := Lib.hid (And.intro hnH hnT)
        have HHH := Lib.hid hHH
        have HG7 := Lib.hid (And.intro hg6 hg7)
        have HG4 := Lib.hid (And.intro hg4 hg5)
        have HG2 := Lib.hid hg2
        clear hown hb3 hg1 hg3 hg6 hg7 hg4 hg5 hhp p0 p1 p2 q0 q1 q2 hnH hnT hHH
        go_wp2_with (refine wpList_store_k _ rfl 34 _ _ rfl g (i * 10) (enM (⟨at1, ak1, akey1, afin1, aval1, aex1, ⟨ap1, al1, aw1⟩, aov1⟩, .slice xo xn xc)) rfl rfl (R.flatMap enM ++ spare) 34 HHP.out (info_sizeM _ rfl) HFIT.out HONE.out ?_; (obtain ⟨w5, hw5⟩ : ∃ W5, W5 = ((w3.setCell ⟨w.heap.size, 0, none⟩ (.slice (some ⟨g, 0, none⟩) R.length cap)).setRow g ⟨splice (R.flatMap enM ++ spare) (i * 10) (enM (⟨at1, ak1, akey1, afin1, aval1, aex1, ⟨ap1, al1, aw1⟩, aov1⟩, .slice xo xn xc))⟩) := ⟨_, rfl⟩); rw [← hw5] at HP5 HT5 HR5 HB5 ⊢; clear hw5; clear r0 r1 r2 u0 u1 u2; (obtain ⟨-, r0, r1, r2, -⟩ := HP5.out); (obtain ⟨tl, t0, t1, t2, f0, f1, f2⟩ := HT5.out))
        obtain ⟨-, e0, e1, e2, -⟩ := c3_put HT5.out (.slice (some ⟨g, 0, none⟩) R.length cap) (.slice bo nb bc) (.slice dd nd dc)
        refine bodyPost_ret (v := .agg #[.slice (some ⟨g, 0, none⟩) R.length cap, .slice bo nb bc, .slice dd nd dc]) (by simp [results, Tryd.f22, go_sem, e0, e1, e2]) rfl ?_
        have hbf := c3_put_below HB5.out (k := w.heap.size + 1 + 1) (by omega) (.slice (some ⟨g, 0, none⟩) R.length cap) (.slice bo nb bc) (.slice dd nd dc)
        have hgg := HG.out
        have hspl : splice (R.flatMap enM ++ spare) (i * 10) (enM (⟨at1, ak1, akey1, afin1, aval1, aex1, ⟨ap1, al1, aw1⟩, aov1⟩, .slice xo xn xc)) = (R.set i (⟨at1, ak1, akey1, afin1, aval1, aex1, ⟨ap1, al1, aw1⟩, aov1⟩, .slice xo xn xc)).flatMap enM ++ spare := flat_splice R spare i (⟨at1, ak1, akey1, afin1, aval1, aex1, ⟨ap1, al1, aw1⟩, aov1⟩, .slice xo xn xc) HIL.out
        have hlf := Lst.kept (lst_row HR5.out hspl HG4.out.1 HG4.out.2) (w' := (((w5.setCell ⟨w.heap.size + 1 + 1, 0, none⟩ (.slice (some ⟨g, 0, none⟩) R.length cap)).setCell ⟨w.heap.size + 1 + 1, 1, none⟩ (.slice bo nb bc)).setCell ⟨w.heap.size + 1 + 1, 2, none⟩ (.slice dd nd dc))) (fun o => by
          rw [World.cell?_setCell_far _ _ _ _ (by show _ ≠ _; simp only []; omega), World.cell?_setCell_far _ _ _ _ (by show _ ≠ _; simp only []; omega), World.cell?_setCell_far _ _ _ _ (by show _ ≠ _; simp only []; omega)]) (by simp)
        have hno : ∀ y ∈ c.wipes, ¬ hits y akey1 ⟨ap1, al1, aw1⟩ := fun y hy h => by
          have h1 := List.any_eq_false.1 HCC.out.symm y hy
          exact h1 ((hits_iff _ _ _).1 h)
        have hz := congrArg (fun o => o.map (·.1)) HZ.out
        rw [← List.getElem?_map, HE.out] at hz
        have hm := HCM.out
        rw [hm] at hlt
        have hz2 := hz
        exact ⟨_, _, _, ⟨c.cells.set i ⟨at1, ak1, akey1, afin1, aval1, aex1, ⟨ap1, al1, aw1⟩, aov1⟩, c.wipes, c.sibs⟩, rfl, ⟨reads_set HCE.out HE.out HX.out hlf hbf, HL.out.wipes.below hbf, HL.out.sibs.below hbf⟩, HR.out.cell_set (fit_of HRR.out) HK.out hno hz2 HKEY.out hlt, HO.out.cells HRR.out (fun y hy => List.mem_or_eq_of_mem_set hy) (by rw [List.length_set]; omega), hbf⟩
      · obtain ⟨pl, p0, p1, p2, q0, q1, q2⟩ := HPy.out
        obtain ⟨tl, t0, t1, t2, f0, f1, f2⟩ := HTy.out
        have hge : decide (Cm < 0) = false := by simpa using hlt
        go_wp2_with fail
        obtain ⟨-, e0, e1, e2, -⟩ := c3_put HTy.out (.slice (some ⟨zb, zoff, none⟩) na ac) (.slice bo nb bc) (.slice dd nd dc)
        refine bodyPost_ret (v := .agg #[(.slice (some ⟨zb, zoff, none⟩) na ac), .slice bo nb bc, .slice dd nd dc]) (by simp [results, Tryd.f22, go_sem, e0, e1, e2]) rfl ?_
        have hbf := c3_put_below HBy.out (k := w.heap.size + 1 + 1) (by omega) (.slice (some ⟨zb, zoff, none⟩) na ac) (.slice bo nb bc) (.slice dd nd dc)
        have hno : ∀ y ∈ c.wipes, ¬ hits y akey1 ⟨ap1, al1, aw1⟩ := fun y hy h => by
          have h1 := List.any_eq_false.1 HCC.out.symm y hy
          exact h1 ((hits_iff _ _ _).1 h)
        have hz := congrArg (fun o => o.map (·.1)) HZ.out
        rw [← List.getElem?_map, HE.out] at hz
        have hm := HCM.out
        rw [hm] at hlt
        have hlt2 := hlt
        exact ⟨_, _, _, c, rfl, HL.out.below hbf, HR.out.cell_keep (fit_of HRR.out) HK.out hno hz HKEY.out (Int.not_lt.2 hlt2), HO.out.more (by omega), hbf⟩
  · obtain ⟨pl, p0, p1, p2, -⟩ := HP1.out
    obtain ⟨tl, t0, t1, t2, f0, f1, f2⟩ := HT1.out
    go_wp2_with fail
    have HF := Lib.hid (c3_put HT1.out (.slice ao na ac) (.slice bo nb bc) (.slice dd nd dc))
    obtain ⟨-, e0, e1, e2, -⟩ := HF.out
    refine bodyPost_ret (v := .agg #[.slice ao na ac, .slice bo nb bc, .slice dd nd dc]) (by simp [results, Tryd.f22, go_sem, e0, e1, e2]) rfl ?_
    have hb3 := c3_put_below HB1.out (k := w.heap.size + 1 + 1) (by omega) (.slice ao na ac) (.slice bo nb bc) (.slice dd nd dc)
    obtain ⟨y, hy, e⟩ := List.any_eq_true.1 HCC.out.symm
    exact ⟨_, _, _, c, rfl, HL.out.below hb3, HR.out.cell_hit (fit_of HRR.out) HK.out hy ((hits_iff _ _ _).2 e), HO.out.more (by omega), hb3⟩
end Go.Proofs.YtgcfhlleaekgfaaDoor.Mut
