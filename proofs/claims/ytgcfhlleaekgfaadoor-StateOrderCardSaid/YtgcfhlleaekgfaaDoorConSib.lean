/- The walk of state.Content.sib (layer 8). -/
import Derived.Test.YtgcfhlleaekgfaaDoorConCell
namespace Go.Proofs.YtgcfhlleaekgfaaDoor.Mut
open Go.RowKit Go.Sort Go.Proofs.YtgcfhlleaekgfaaDoor.Ord

set_option maxHeartbeats 4000000 in
set_option maxRecDepth 100000 in
theorem sib_at (ao bo dd : Option Addr) (na ac nb bc nd dc : Nat) (c : Con) (S : Mu → Prop) (n : Nat) (m : Mu) (xo : Option Addr) (xn xc : Nat) (w : World) (hc : Lies w (.slice ao na ac) (.slice bo nb bc) (.slice dd nd dc) c) (hR : Reps S c) (hO : Okc c n) (hn : n ≤ 100000)
    (hx : Over w (m, .slice xo xn xc)) (hr : rightF m = true) (hk : isS m) :
    Calls Tryd.prog 19 #[.agg #[.slice ao na ac, .slice bo nb bc, .slice dd nd dc], vM (m, .slice xo xn xc)] w (AddP w S m n) := by
  obtain ⟨l1, l2, l3⟩ := hO.lens
  obtain ⟨R, eR, hcells⟩ := hc.sibs
  have hRl : R.length = c.sibs.length := by rw [← eR]; simp
  obtain ⟨_, _, e0, -, -⟩ := hcells.form
  obtain ⟨rfl⟩ : nd = R.length := by injection e0
  clear e0
  obtain ⟨nd, hna⟩ : ∃ k, k = R.length := ⟨_, rfl⟩
  rw [← hna] at hc hcells hRl ⊢
  have HPl := Lib.hid (fun (W : World) (hW : RowKit.Below w.heap.size w W) => bsmut_any (.slice dd nd dc) R (m, .slice xo xn xc) (fun y => sibC y m) W (hcells.row.below hW) hcells.forms ⟨_, _, _, rfl⟩ (by omega)
    (fun x hxR z hz => (siblings_any x (m, .slice xo xn xc) z ((hcells.over x hxR).below (below_then hW (Nat.le_refl _) hz)) (hx.below (below_then hW (Nat.le_refl _) hz)) (small_right (hO.right _ (Con.mem_all.2 (Or.inr (Or.inr (by rw [← eR]; exact List.mem_map.2 ⟨x, hxR, rfl⟩)))))).over (small_right hr).over).mono fun _ _ h => ⟨h.1, h.2.below⟩)
    (fun a b x y hab hxa hyb hc => by
      obtain ⟨h1, h1'⟩ := List.getElem?_eq_some_iff.1 hxa
      obtain ⟨h2, h2'⟩ := List.getElem?_eq_some_iff.1 hyb
      have hrs := hR.rs
      rw [← eR] at hrs
      have := (List.pairwise_iff_getElem.1 hrs) a b h1 h2 hab
      rw [h1', h2'] at this
      exact sibO.trans _ _ _ this hc))
  have hA := A0.of ((At.new (w.alloc (.cells #[.slice ao na ac, .slice bo nb bc, .slice dd nd dc] 25)) 34 (m, .slice xo xn xc)).below ((Below.refl _ _).alloc (by simp) (.cells #[.slice none 0 0, .slice none 0 0, .slice none 0 0] 25)))
  rw [World.size_alloc] at hA
  have hP := (((C3.new w (.slice ao na ac) (.slice bo nb bc) (.slice dd nd dc)).below ((Below.refl _ _).alloc (Nat.le_refl _) (.cells (enM (m, .slice xo xn xc)).toArray 34))).below ((Below.refl _ _).alloc (by simp) (.cells #[.slice none 0 0, .slice none 0 0, .slice none 0 0] 25)))
  have hT := C3.new ((w.alloc (.cells #[.slice ao na ac, .slice bo nb bc, .slice dd nd dc] 25)).alloc (.cells (enM (m, .slice xo xn xc)).toArray 34)) (.slice none 0 0) (.slice none 0 0) (.slice none 0 0)
  rw [World.size_alloc, World.size_alloc] at hT
  have HP := Lib.hid hP
  have HT := Lib.hid hT
  have HA := Lib.hid hA
  have HNA := Lib.hid hna
  have HLEN := Lib.hid (show R.length ≤ 1000000 by omega)
  have HL := Lib.hid hc
  have HR := Lib.hid hR
  have HO := Lib.hid hO
  have HX := Lib.hid hx
  have HE := Lib.hid eR
  have HCE := Lib.hid hcells
  have HRR := Lib.hid hr
  have HK := Lib.hid hk
  clear hA hP hT hna hc hR hO hx eR hcells hr hk hRl
  obtain ⟨at1, ak1, akey1, afin1, aval1, aex1, ⟨ap1, al1, aw1⟩, aov1⟩ := m
  unfold vM
  unfold enM at HA HP HT
  simp only [] at HA HP HT HPl ⊢
  go_enter Tryd.func19, Tryd.ntmps19
  go_wp2_with fail
  have hB := Lib.hid (((((Below.refl _ w).alloc (Nat.le_refl _) (.cells #[.slice ao na ac, .slice bo nb bc, .slice dd nd dc] 25)).alloc (by simp) (.cells #[.int .i64 at1, .int .i64 ak1, .string akey1, .string afin1, .string aval1, .int .i64 aex1, .int .i64 ap1, .int .i64 al1, .int .i64 aw1, .slice xo xn xc] 34))).alloc (by simp; omega) (.cells #[.slice none 0 0, .slice none 0 0, .slice none 0 0] 25))
  obtain ⟨-, p0, p1, p2, -⟩ := HP.out
  obtain ⟨-, a0, a1, a2, a3, a4, a5, a6, a7, a8, a9⟩ := HA.out
  simp only [] at a0 a1 a2 a3 a4 a5 a6 a7 a8 a9
  refine (HPl.out _ hB.out).mono ?_
  rintro e w2 ⟨i, hi, rfl, hb⟩
  have HI := Lib.hid hi
  have HB2 := Lib.hid (below_then hB.out (Nat.le_refl _) hb)
  have HA2 := Lib.hid (HA.out.below hb)
  have HP2 := Lib.hid (HP.out.below hb)
  have HT2 := Lib.hid (HT.out.below hb)
  clear hi hb p0 p1 p2 a0 a1 a2 a3 a4 a5 a6 a7 a8 a9
  obtain ⟨-, p0, p1, p2, q0, q1, q2⟩ := HP2.out
  obtain ⟨-, a0, a1, a2, a3, a4, a5, a6, a7, a8, a9⟩ := HA2.out
  simp only [] at a0 a1 a2 a3 a4 a5 a6 a7 a8 a9
  obtain ⟨D, hD⟩ : ∃ D, D = isAt (fun y => sibC y ⟨at1, ak1, akey1, afin1, aval1, aex1, ⟨ap1, al1, aw1⟩, aov1⟩) (R.map (·.1)) i := ⟨_, rfl⟩
  rw [← hD]
  have HD := Lib.hid hD
  clear hD
  have HCl : Hid (∀ W, RowKit.Below w2.heap.size w2 W → Calls Tryd.prog 40 #[.slice dd nd dc] W (OwnP 34 10 enM W R)) := Lib.hid (fun W hW => by
    have h := (HCE.out.below HB2.out).below hW
    have hl : nd = R.length := HNA.out
    rw [hl] at h ⊢
    exact cloneM_any dd dc R W h.row (flatM_one h.forms) HLEN.out)
  have hs : w.heap.size + 1 + 1 < w2.heap.size := HT2.out.lt
  cases D
  · go_wp2_with fail
    have HIL := Lib.hid (show i ≤ R.length from by have := HI.out.1; simpa using this)
    have HFO := Lib.hid (fun y hy => (HCE.out.forms y hy))
    have HNW : Hid (∀ z : World, (z.alloc (.cells #[.int .i64 at1, .int .i64 ak1, .string akey1, .string afin1, .string aval1, .int .i64 aex1, .int .i64 ap1, .int .i64 al1, .int .i64 aw1, .slice xo xn xc] 34)).heap[z.heap.size]? = some (.cells ⟨enM (⟨at1, ak1, akey1, afin1, aval1, aex1, ⟨ap1, al1, aw1⟩, aov1⟩, .slice xo xn xc)⟩ 34 (0, 0))) := Lib.hid (fun z => heap_alloc_new z _)
    have n0 : ∀ o : Obj, (w2.alloc o).cell? ⟨w.heap.size, 2, none⟩ = some (.slice dd nd dc) := fun o => (((Below.refl w2.heap.size w2).alloc (Nat.le_refl _) o).cell (p := ⟨w.heap.size, 2, none⟩) HP2.out.lt).trans p2
    go_region_law (first
      | (go_simp; go_at_call 40; (with_reducible refine (HCl.out _ ((Below.refl w2.heap.size w2).drew)).mono ?_); rintro e w3 ⟨v, rfl, hown, hb3⟩; have B3 := below_then ((Below.refl w2.heap.size w2).drew) (Nat.le_refl _) hb3; obtain ⟨-, p0, p1, p2, -⟩ := HP2.out.below B3; obtain ⟨-, a0, a1, a2, a3, a4, a5, a6, a7, a8, a9⟩ := HA2.out.below B3; simp only [] at a0 a1 a2 a3 a4 a5 a6 a7 a8 a9; have HOW := Lib.hid (own_base (n₀ := w2.heap.size) hown (by simp)); have HB3 := Lib.hid B3; clear hown B3 hb3)
      | (go_simp; go_at_call 40; (with_reducible refine (HCl.out _ (((Below.refl w2.heap.size w2).alloc (Nat.le_refl _) (.cells #[.int .i64 at1, .int .i64 ak1, .string akey1, .string afin1, .string aval1, .int .i64 aex1, .int .i64 ap1, .int .i64 al1, .int .i64 aw1, .slice xo xn xc] 34)).drew)).mono ?_); rintro e w3 ⟨v, rfl, hown, hb3⟩; have B3 := below_then (((Below.refl w2.heap.size w2).alloc (Nat.le_refl _) (.cells #[.int .i64 at1, .int .i64 ak1, .string akey1, .string afin1, .string aval1, .int .i64 aex1, .int .i64 ap1, .int .i64 al1, .int .i64 aw1, .slice xo xn xc] 34)).drew) (Nat.le_refl _) hb3; obtain ⟨-, p0, p1, p2, -⟩ := HP2.out.below B3; obtain ⟨-, a0, a1, a2, a3, a4, a5, a6, a7, a8, a9⟩ := HA2.out.below B3; simp only [] at a0 a1 a2 a3 a4 a5 a6 a7 a8 a9; have HOW := Lib.hid (own_base (n₀ := w2.heap.size) hown (by simp)); have HB3 := Lib.hid B3; have HVB := Lib.hid (fun k hk (e : k = w2.heap.size) => by have := (hown.lt k hk).1; simp at this; omega : ∀ k, v.ownBlock = some k → k ≠ w2.heap.size); have HBL := Lib.hid ((hb3.block w2.heap.size (by simp)).trans (HNW.out w2)); clear hown B3 hb3)
      | (go_simp; go_at_call 39; (with_reducible refine (put_any w2 _ w2.heap.size v w3.heap.size R i (⟨at1, ak1, akey1, afin1, aval1, aex1, ⟨ap1, al1, aw1⟩, aov1⟩, .slice xo xn xc) (Nat.le_refl _) (HOW.out.alloc _) (HB3.out.alloc HB3.out.size _) HIL.out HLEN.out (HNW.out w3) (fun k hk e => by have := (HOW.out.lt k hk).2; omega) HFO.out ⟨_, _, _, rfl⟩).mono ?_); rintro e w4 ⟨g, cap, rfl, hl4, hg4, B4⟩; have HL4 := Lib.hid hl4; have HB4 := Lib.hid B4; have HG4 := Lib.hid hg4; obtain ⟨-, p0, p1, p2, q0, q1, q2⟩ := HP2.out.below B4; obtain ⟨-, a0, a1, a2, a3, a4, a5, a6, a7, a8, a9⟩ := HA2.out.below B4; simp only [] at a0 a1 a2 a3 a4 a5 a6 a7 a8 a9; clear hl4 hg4 B4)
      | (go_simp; go_at_call 39; (with_reducible refine (put_any w2 _ w2.heap.size v w2.heap.size R i (⟨at1, ak1, akey1, afin1, aval1, aex1, ⟨ap1, al1, aw1⟩, aov1⟩, .slice xo xn xc) (Nat.le_refl _) (HOW.out) (HB3.out) HIL.out HLEN.out (HBL.out) (HVB.out) HFO.out ⟨_, _, _, rfl⟩).mono ?_); rintro e w4 ⟨g, cap, rfl, hl4, hg4, B4⟩; have HL4 := Lib.hid hl4; have HB4 := Lib.hid B4; have HG4 := Lib.hid hg4; obtain ⟨-, p0, p1, p2, q0, q1, q2⟩ := HP2.out.below B4; obtain ⟨-, a0, a1, a2, a3, a4, a5, a6, a7, a8, a9⟩ := HA2.out.below B4; simp only [] at a0 a1 a2 a3 a4 a5 a6 a7 a8 a9; clear hl4 hg4 B4))
    all_goals
      clear a0 a1 a2 a3 a4 a5 a6 a7 a8 a9
      obtain ⟨tl, t0, t1, t2, f0, f1, f2⟩ := HT2.out.below HB4.out
      go_wp2_with fail
      have HN : Hid (w.heap.size ≠ w.heap.size + 1 + 1) := Lib.hid (by omega)
      obtain ⟨-, e0, e1, e2, -⟩ := c3_put ((HT2.out.below HB4.out).other (u := .slice (some ⟨g, 0, none⟩) (R.length + 1) cap) (o := 2) HN.out) (.slice ao na ac) (.slice bo nb bc) (.slice (some ⟨g, 0, none⟩) (R.length + 1) cap)
      refine bodyPost_ret (v := .agg #[.slice ao na ac, .slice bo nb bc, .slice (some ⟨g, 0, none⟩) (R.length + 1) cap]) (by simp [results, Tryd.f19, go_sem, e0, e1, e2]) rfl ?_
      have hb4 := below_then HB2.out (Nat.le_refl _) HB4.out
      have hbf := c3_put_below (hb4.setCell (p := ⟨w.heap.size, 2, none⟩) (Nat.le_refl _) (.slice (some ⟨g, 0, none⟩) (R.length + 1) cap)) (k := w.heap.size + 1 + 1) (by omega) (.slice ao na ac) (.slice bo nb bc) (.slice (some ⟨g, 0, none⟩) (R.length + 1) cap)
      have hg : w2.heap.size ≤ g := HG4.out
      have hlf := Lst.kept HL4.out (w' := ((((w4.setCell ⟨w.heap.size, 2, none⟩ (.slice (some ⟨g, 0, none⟩) (R.length + 1) cap)).setCell ⟨w.heap.size + 1 + 1, 0, none⟩ (.slice ao na ac)).setCell ⟨w.heap.size + 1 + 1, 1, none⟩ (.slice bo nb bc)).setCell ⟨w.heap.size + 1 + 1, 2, none⟩ (.slice (some ⟨g, 0, none⟩) (R.length + 1) cap))) (fun o => by
        rw [World.cell?_setCell_far _ _ _ _ (by show _ ≠ _; simp only []; omega), World.cell?_setCell_far _ _ _ _ (by show _ ≠ _; simp only []; omega), World.cell?_setCell_far _ _ _ _ (by show _ ≠ _; simp only []; omega), World.cell?_setCell_far _ _ _ _ (by show _ ≠ _; simp only []; omega)]) (by simp)
      have hp := HI.out
      have hd := HD.out.symm
      rw [HE.out] at hp hd
      exact ⟨_, _, _, ⟨c.cells, c.wipes, c.sibs.take i ++ ⟨at1, ak1, akey1, afin1, aval1, aex1, ⟨ap1, al1, aw1⟩, aov1⟩ :: c.sibs.drop i⟩, rfl, ⟨HL.out.cells.below hbf, HL.out.wipes.below hbf, reads_put HCE.out HE.out HX.out hlf hbf⟩, HR.out.sib_put (fit_of HRR.out) HK.out hp hd, HO.out.sibs HRR.out (fun y hy => mem_take_drop.1 hy) (len_put _ _ _), hbf⟩
  · obtain ⟨tl, t0, t1, t2, f0, f1, f2⟩ := HT2.out
    go_wp2_with fail
    obtain ⟨-, e0, e1, e2, -⟩ := c3_put HT2.out (.slice ao na ac) (.slice bo nb bc) (.slice dd nd dc)
    refine bodyPost_ret (v := .agg #[.slice ao na ac, .slice bo nb bc, .slice dd nd dc]) (by simp [results, Tryd.f19, go_sem, e0, e1, e2]) rfl ?_
    have hbf := c3_put_below HB2.out (k := w.heap.size + 1 + 1) (by omega) (.slice ao na ac) (.slice bo nb bc) (.slice dd nd dc)
    have hd := HD.out.symm
    rw [HE.out] at hd
    exact ⟨_, _, _, c, rfl, HL.out.below hbf, HR.out.sib_keep (fit_of HRR.out) HK.out hd, HO.out.more (by omega), hbf⟩
end Go.Proofs.YtgcfhlleaekgfaaDoor.Mut
