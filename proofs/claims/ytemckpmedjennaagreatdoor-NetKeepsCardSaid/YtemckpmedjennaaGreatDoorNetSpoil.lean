/- The law's wrote, told, spoil (layer 22). PRINTED by wip/gennetspoil.py. -/
import Derived.Test.YtemckpmedjennaaGreatDoorNetOwns
import Derived.Test.YtemckpmedjennaaGreatDoorRegApp
set_option linter.unusedSimpArgs false
set_option linter.unusedVariables false
namespace Go.Proofs.YtemckpmedjennaaGreatDoor.NetG
open Go.RowKit Go.Proofs.YtemckpmedjennaaGreatDoor.Mut Go.Proofs.YtemckpmedjennaaGreatDoor.NetW Go.Proofs.YtemckpmedjennaaGreatDoor.RegInv
set_option linter.unusedSectionVars false
variable [Inhabited Lim]

theorem muC_self (m : Mu) : muC m m = 0 := muO.self m
set_option maxHeartbeats 4000000 in
set_option maxRecDepth 100000 in
theorem wrote_any (m : Mu) (ov ov2 : Value) (w : World) (h1 : Over w (m, ov)) (h2 : Over w (m, ov2)) (hl : m.over.length ≤ 1000000) :
    Calls Tryz.prog 10 #[.iface 37 (vW 1 (m, ov)), vM (m, ov2)] w (RetB true w) := by
  have HCM := Lib.hid (fun (W : World) (h : RowKit.Below w.heap.size w W) => by
    have h0 := refcompare_any (m, ov) (m, ov2) W (h1.below h) (h2.below h) hl hl
    rw [show muC (m, ov).1 (m, ov2).1 = 0 from muC_self m] at h0
    exact h0)
  obtain ⟨vo, vc, e1, -, -⟩ := Over.form h1
  obtain ⟨uo, uc, e2, -, -⟩ := Over.form h2
  simp only [] at e1 e2
  subst e1 e2
  obtain ⟨tb, kd, ky, fi, va, ex, ⟨sp, sl, sw⟩, O⟩ := m
  simp only [] at HCM hl
  obtain ⟨n, hn⟩ : ∃ k, k = O.length := ⟨_, rfl⟩
  rw [← hn] at HCM hl ⊢
  have hw := fun w => hit_Write (.agg #[.int .i64 1, .int .i64 tb, .int .i64 kd, .string ky, .string fi, .string va, .int .i64 ex, .int .i64 sp, .int .i64 sl, .int .i64 sw, .slice vo n vc]) w
  unfold vW
  unfold vM at HCM ⊢
  simp only [] at HCM ⊢
  obtain ⟨W, hW⟩ : ∃ W, W = (w.alloc (.cells #[.int .i64 tb, .int .i64 kd, .string ky, .string fi, .string va, .int .i64 ex, .int .i64 sp, .int .i64 sl, .int .i64 sw, .slice uo n uc] 28)).alloc (.cells #[.int .i64 1, .int .i64 tb, .int .i64 kd, .string ky, .string fi, .string va, .int .i64 ex, .int .i64 sp, .int .i64 sl, .int .i64 sw, .slice vo n vc] 37) := ⟨_, rfl⟩
  have hb : RowKit.Below w.heap.size w W := by rw [hW]; exact ((Below.refl _ _).alloc (Nat.le_refl _) _).alloc (by simp) _
  have HW := Lib.hid hW
  have HB := Lib.hid hb
  clear hn h1 h2 hW hb
  go_enter Tryz.func10, Tryz.ntmps10
  go_wp2_with fail
  rw [← HW.out]
  refine (HCM.out W HB.out).mono ?_
  rintro e w1 ⟨rfl, hb1⟩
  have HB1 := Lib.hid (below_then HB.out (Nat.le_refl _) hb1)
  clear hb1
  go_wp2_with fail
  go_ret
  exact ⟨rfl, HB1.out⟩

set_option maxHeartbeats 4000000 in
set_option maxRecDepth 100000 in
theorem told_any (c : Con) (n : Nat) (a b d lv : Value) (l : List Mu) (w : World) (hT : Tabs w) (hc : Lies w a b d c) (hg : Mut.Good c n) (hv : Reads w lv l) (hl : l.length ≤ 10000) (hs : ∀ m ∈ l, Small m) (he : Mut.leftOf l = c) :
    Calls Tryz.prog 14 #[.iface 51 (vA 2 a b d), lv] w (RetB true w) := by
  obtain ⟨o1, n1, k1, rfl⟩ := hc.cells.slice
  obtain ⟨o2, n2, k2, rfl⟩ := hc.wipes.slice
  obtain ⟨o3, n3, k3, rfl⟩ := hc.sibs.slice
  have HOF := Lib.hid (fun (W : World) (h : RowKit.Below w.heap.size w W) => by
    have h0 := c_refof (hT.below h) (hv.below h) hl hs
    rw [he] at h0
    exact h0)
  have HIS := Lib.hid (fun (W : World) (h : RowKit.Below w.heap.size w W) (v : Value) (hv : IsC c v W) => c_is true (iff_of_true rfl rfl) (hc.below h).is hg hv hg)
  obtain ⟨lo, lc, rfl, -, -⟩ := hv.form
  obtain ⟨ln, hln⟩ : ∃ k, k = l.length := ⟨_, rfl⟩
  rw [← hln] at HOF ⊢
  have hw := fun w => hit_Answer (.agg #[.int .i64 2, .int .i64 0, .int .i64 0, .slice o1 n1 k1, .slice o2 n2 k2, .slice o3 n3 k3, .int .i64 0, .int .i64 0, .int .i64 0, .int .i64 0]) w
  unfold vA
  obtain ⟨W0, hW⟩ : ∃ W0, W0 = w.alloc (.cells #[.int .i64 2, .int .i64 0, .int .i64 0, .slice o1 n1 k1, .slice o2 n2 k2, .slice o3 n3 k3, .int .i64 0, .int .i64 0, .int .i64 0, .int .i64 0] 51) := ⟨_, rfl⟩
  obtain ⟨k5, hk5⟩ : ∃ k, k = w.heap.size := ⟨_, rfl⟩
  have hb : RowKit.Below w.heap.size w W0 := by rw [hW]; exact (Below.refl _ _).alloc (Nat.le_refl _) _
  have hbx : W0.heap[k5]? = some (.cells #[.int .i64 2, .int .i64 0, .int .i64 0, .slice o1 n1 k1, .slice o2 n2 k2, .slice o3 n3 k3, .int .i64 0, .int .i64 0, .int .i64 0, .int .i64 0] 51 (0, 0)) := by rw [hW, hk5]; exact heap_alloc_new w _
  have HW := Lib.hid hW
  have HK := Lib.hid hk5
  have HB := Lib.hid hb
  have HC5 := Lib.hid (fun (V : World) (h : RowKit.Below W0.heap.size W0 V) => show V.cell? ⟨k5, 0, none⟩ = some (.int .i64 2) ∧ V.cell? ⟨k5, 3, none⟩ = some (.slice o1 n1 k1) ∧ V.cell? ⟨k5, 4, none⟩ = some (.slice o2 n2 k2) ∧ V.cell? ⟨k5, 5, none⟩ = some (.slice o3 n3 k3) from by
    have hx := (h.block k5 (Array.getElem?_eq_some_iff.1 hbx).1).trans hbx
    exact ⟨by rw [cell_of_row V k5 0 _ _ (0, 0) hx]; rfl, by rw [cell_of_row V k5 3 _ _ (0, 0) hx]; rfl, by rw [cell_of_row V k5 4 _ _ (0, 0) hx]; rfl, by rw [cell_of_row V k5 5 _ _ (0, 0) hx]; rfl⟩)
  clear hT hc hg hv hl hs he hln hW hk5 hb hbx
  go_enter Tryz.func14, Tryz.ntmps14
  go_upto_region 2 with fail
  rw [← HW.out, ← HK.out]
  refine wp_region_told [] 13 [false, false, false, false, false, false, false, false, false, false, false, false, true, true, true, true, true, true, true, true, true, true, true, true, true]
    [sLit (.bool true),
    sLit (.bool true),
    sLit (.pointer (some ⟨k5, 0, none⟩)),
    sLit (.int .i64 2),
    sLit (.bool true),
    sLit (.bool true),
    sLit (.bool true),
    sLit (.pointer (some ⟨k5, 3, none⟩)),
    sLit (.agg #[.slice o1 n1 k1, .slice o2 n2 k2, .slice o3 n3 k3]),
    sLit (.slice lo ln lc),
    sOne (fun v1 W => IsC c v1 W) (fun _ _ _ h hb => h.below hb),
    sLit (.bool true),
    sLit (.bool true)] (by kernel_rfl) (by kernel_rfl) (by kernel_rfl) (fun F hF => ?_)
  simp only [over, overL, Nat.reduceAdd] at hF
  obtain rfl := funext hF
  clear hF
  refine ⟨⟨?_, ?_, ?_, ?_, ?_, ?_, ?_, ?_, ?_, ?_, ?_, ?_, ?_, trivial⟩, ?_⟩
  · intro V W hb hd K hK _
    clear hd
    go_wp2_with fail
    refine hK _ _ ?_ ?_ ?_ ?_
    · rfl
    · exact Below.refl _ _
    · exact rfl
    · trivial
  · intro V W hb hd K hK _
    have h0 : (V 12) = .bool true := hd 0 (by kernel_rfl)
    clear hd
    go_wp2_with fail
    refine hK _ _ ?_ ?_ ?_ ?_
    · rfl
    · exact Below.refl _ _
    · exact rfl
    · trivial
  · intro V W hb hd K hK _
    have h1 : (V 13) = .bool true := hd 1 (by kernel_rfl)
    clear hd
    go_wp2_with fail
    refine hK _ _ ?_ ?_ ?_ ?_
    · rfl
    · exact Below.refl _ _
    · exact rfl
    · trivial
  · intro V W hb hd K hK _
    have h1 : (V 13) = .bool true := hd 1 (by kernel_rfl)
    have h2 : (V 14) = .pointer (some ⟨k5, 0, none⟩) := hd 2 (by kernel_rfl)
    clear hd
    obtain ⟨s0, s3, s4, s5⟩ := HC5.out W hb
    go_wp2_with fail
    refine hK _ _ ?_ ?_ ?_ ?_
    · rfl
    · exact Below.refl _ _
    · exact rfl
    · trivial
  · intro V W hb hd K hK _
    have h1 : (V 13) = .bool true := hd 1 (by kernel_rfl)
    have h3 : (V 15) = .int .i64 2 := hd 3 (by kernel_rfl)
    clear hd
    go_wp2_with fail
    refine hK _ _ ?_ ?_ ?_ ?_
    · rfl
    · exact Below.refl _ _
    · exact rfl
    · trivial
  · intro V W hb hd K hK _
    have h1 : (V 13) = .bool true := hd 1 (by kernel_rfl)
    have h4 : (V 16) = .bool true := hd 4 (by kernel_rfl)
    clear hd
    go_wp2_with fail
    refine hK _ _ ?_ ?_ ?_ ?_
    · rfl
    · exact Below.refl _ _
    · exact rfl
    · trivial
  · intro V W hb hd K hK _
    have h5 : (V 17) = .bool true := hd 5 (by kernel_rfl)
    clear hd
    go_wp2_with fail
    refine hK _ _ ?_ ?_ ?_ ?_
    · rfl
    · exact Below.refl _ _
    · exact rfl
    · trivial
  · intro V W hb hd K hK _
    have h6 : (V 18) = .bool true := hd 6 (by kernel_rfl)
    clear hd
    go_wp2_with fail
    refine hK _ _ ?_ ?_ ?_ ?_
    · rfl
    · exact Below.refl _ _
    · exact rfl
    · trivial
  · intro V W hb hd K hK _
    have h6 : (V 18) = .bool true := hd 6 (by kernel_rfl)
    have h7 : (V 19) = .pointer (some ⟨k5, 3, none⟩) := hd 7 (by kernel_rfl)
    clear hd
    obtain ⟨s0, s3, s4, s5⟩ := HC5.out W hb
    go_wp2_with fail
    refine hK _ _ ?_ ?_ ?_ ?_
    · rfl
    · exact Below.refl _ _
    · exact rfl
    · trivial
  · intro V W hb hd K hK _
    have h6 : (V 18) = .bool true := hd 6 (by kernel_rfl)
    clear hd
    go_wp2_with fail
    refine hK _ _ ?_ ?_ ?_ ?_
    · rfl
    · exact Below.refl _ _
    · exact rfl
    · trivial
  · intro V W hb hd K hK _
    have h6 : (V 18) = .bool true := hd 6 (by kernel_rfl)
    have h9 : (V 21) = .slice lo ln lc := hd 9 (by kernel_rfl)
    clear hd
    have HCC := Lib.hid hb
    clear hb
    go_wp2_with fail
    refine (HOF.out W (below_then HB.out (Nat.le_refl _) HCC.out)).mono ?_
    rintro e w1 ⟨v1, rfl, g1, g2⟩
    go_wp2_with fail
    refine hK _ _ ?_ ?_ ?_ ?_
    · rfl
    · exact g2
    · exact g1
    · trivial
  · intro V W hb hd K hK _
    have h6 : (V 18) = .bool true := hd 6 (by kernel_rfl)
    have h8 : (V 20) = .agg #[.slice o1 n1 k1, .slice o2 n2 k2, .slice o3 n3 k3] := hd 8 (by kernel_rfl)
    have h10 : IsC c (V 22) W := hd 10 (by kernel_rfl)
    clear hd
    have HCC := Lib.hid hb
    clear hb
    have H10 := Lib.hid h10
    clear h10
    go_wp2_with fail
    refine (HIS.out W (below_then HB.out (Nat.le_refl _) HCC.out) _ H10.out).mono ?_
    rintro e w1 ⟨rfl, g2⟩
    go_wp2_with fail
    refine hK _ _ ?_ ?_ ?_ ?_
    · rfl
    · exact g2
    · exact rfl
    · trivial
  · intro V W hb hd K hK _
    have h6 : (V 18) = .bool true := hd 6 (by kernel_rfl)
    have h11 : (V 23) = .bool true := hd 11 (by kernel_rfl)
    clear hd
    go_wp2_with fail
    refine hK _ _ ?_ ?_ ?_ ?_
    · rfl
    · exact Below.refl _ _
    · exact rfl
    · trivial
  · intro V W hb hd hap
    have h12 : (V 24) = .bool true := hd 12 (by decide)
    clear hd hap
    simp only [List.drop_succ_cons, List.drop_zero]
    have HBZ := Lib.hid (below_then HB.out (Nat.le_refl _) hb)
    clear hb
    go_wp2_with fail
    go_ret
    exact ⟨rfl, HBZ.out⟩

set_option maxHeartbeats 4000000 in
set_option maxRecDepth 100000 in
theorem spoil_any (m : Mu) (base : Nat) (ov : Value) (w : World) (h : w.ownsRow base 25 3 ov m.over.length (m.over.flatMap enS)) (hl : m.over.length ≤ 1000000) (hb : base ≤ w.heap.size) :
    Calls Tryz.prog 11 #[.iface 37 (vW 1 (m, ov))] w fun e w' => e = .returned (.bool true) ∧ w.grownBy w' ov.ownBlock := by
  obtain ⟨tb, kd, ky, fi, va, ex, ⟨sp, sl, sw⟩, O⟩ := m
  obtain ⟨vo, vc, rfl⟩ := row_form h
  simp only [] at h hl ⊢
  obtain ⟨n, hn⟩ : ∃ k, k = O.length := ⟨_, rfl⟩
  rw [← hn] at h hl ⊢
  have hw := fun w => hit_Write (.agg #[.int .i64 1, .int .i64 tb, .int .i64 kd, .string ky, .string fi, .string va, .int .i64 ex, .int .i64 sp, .int .i64 sl, .int .i64 sw, .slice vo n vc]) w
  unfold vW
  simp only []
  obtain ⟨W0, hW⟩ : ∃ W0, W0 = w.alloc (.cells #[.int .i64 1, .int .i64 tb, .int .i64 kd, .string ky, .string fi, .string va, .int .i64 ex, .int .i64 sp, .int .i64 sl, .int .i64 sw, .slice vo n vc] 37) := ⟨_, rfl⟩
  obtain ⟨k3, hk3⟩ : ∃ k, k = w.heap.size := ⟨_, rfl⟩
  have hbW : RowKit.Below w.heap.size w W0 := by rw [hW]; exact (Below.refl _ _).alloc (Nat.le_refl _) _
  have hbx : W0.heap[k3]? = some (.cells #[.int .i64 1, .int .i64 tb, .int .i64 kd, .string ky, .string fi, .string va, .int .i64 ex, .int .i64 sp, .int .i64 sl, .int .i64 sw, .slice vo n vc] 37 (0, 0)) := by rw [hW, hk3]; exact heap_alloc_new w _
  have HW := Lib.hid hW
  have HK := Lib.hid hk3
  have HB := Lib.hid hbW
  have HX := Lib.hid hbx
  by_cases h0 : n = 0
  · subst h0
    clear h hn hW hk3 hbW hbx
    have hz : decide ((0 : Int) > 0) = false := by decide
    have HF := Lib.hid (show w.grownBy W0 (Value.slice vo 0 vc).ownBlock from Mut.grown_below HB.out _)
    go_enter Tryz.func11, Tryz.ntmps11
    go_wp2_with fail
    go_ret
    rw [← HW.out]
    exact ⟨rfl, HF.out⟩
  · obtain ⟨g, hvo, hgc, hgf, hgw⟩ : ∃ g, vo = some ⟨g, 0, none⟩ ∧ (∃ x : Int, w.cell? ⟨g, 1, none⟩ = some (.int .i64 x)) ∧ w.frozen? ⟨g, 1, none⟩ = false ∧ g < w.heap.size := by
      rcases h.2 with ⟨_, e⟩ | ⟨g, cap, cur, e, _, hg, _⟩
      · exact absurd e h0
      · obtain ⟨s, O2, rfl⟩ := List.exists_cons_of_ne_nil (l := O) (fun e => h0 (by rw [hn, e]; rfl))
        injection e with e1 e2 e3
        subst e1
        have h1 := World.ownsRow.cells h (g := g) rfl 1 (.int .i64 s.l) (by rw [List.flatMap_cons]; rfl)
        rw [addr_add] at h1
        exact ⟨g, rfl, ⟨s.l, h1⟩, frozen_of_row w g 1 _ _ hg, (Array.getElem?_eq_some_iff.1 hg).1⟩
    subst hvo
    obtain ⟨x, hx⟩ := hgc
    have hgt : decide ((n : Int) > 0) = true := by simp; omega
    have hpos : (0 : Int) < (n : Int) := by omega
    have HXC := Lib.hid (fun (V : World) (hb : RowKit.Below W0.heap.size W0 V) => show V.cell? ⟨k3, 10, none⟩ = some (.slice (some ⟨g, 0, none⟩) n vc) ∧ V.cell? ⟨g, 1, none⟩ = some (.int .i64 x) ∧ V.frozen? ⟨g, 1, none⟩ = false from by
      have hb2 := hb.block k3 (Array.getElem?_eq_some_iff.1 HX.out).1
      have hb3 := below_then HB.out (Nat.le_refl _) hb
      exact ⟨by rw [cell_of_row V k3 10 _ _ (0, 0) (hb2.trans HX.out)]; rfl, (hb3.cell (p := ⟨g, 1, none⟩) hgw).trans hx, (hb3.frozen (p := ⟨g, 1, none⟩) hgw).trans hgf⟩)
    clear h hn hW hk3 hbW hbx hx hgf
    go_enter Tryz.func11, Tryz.ntmps11
    go_upto_region 3 with fail
    rw [← HW.out, ← HK.out]
    refine wp_region_told [] 12 [false, false, false, false, false, false, false, false, false, false, false, false, false, false, false, false, false, false, true, true, true, true, true, true, true, true, true, true, true, true, false]
      [sLit (.pointer (some ⟨k3, 1, none⟩)),
    sLit (.pointer (some ⟨k3, 10, none⟩)),
    sLit (.slice (some ⟨g, 0, none⟩) n vc),
    sLit (.pointer (some ⟨k3, 1, none⟩)),
    sLit (.pointer (some ⟨k3, 10, none⟩)),
    sLit (.slice (some ⟨g, 0, none⟩) n vc),
    sLit (.pointer (some ⟨g, 0, none⟩)),
    sLit (.pointer (some ⟨g, 1, none⟩)),
    sLit (.int .i64 x),
    sLit (.int .i64 (bits .xor .i64 x 1)),
    sLit (.pointer (some ⟨g, 0, none⟩)),
    sLit (.pointer (some ⟨g, 1, none⟩))] (by kernel_rfl) (by kernel_rfl) (by kernel_rfl) (fun F hF => ?_)
    simp only [over, overL, Nat.reduceAdd] at hF
    obtain rfl := funext hF
    clear hF
    refine ⟨⟨?_, ?_, ?_, ?_, ?_, ?_, ?_, ?_, ?_, ?_, ?_, ?_, trivial⟩, ?_⟩
    · intro V W hb hd K hK _
      clear hd
      go_wp2_with fail
      refine hK _ _ ?_ ?_ ?_ ?_
      · rfl
      · exact Below.refl _ _
      · exact rfl
      · trivial
    · intro V W hb hd K hK _
      have h0 : (V 18) = .pointer (some ⟨k3, 1, none⟩) := hd 0 (by kernel_rfl)
      clear hd
      go_wp2_with fail
      refine hK _ _ ?_ ?_ ?_ ?_
      · rfl
      · exact Below.refl _ _
      · exact rfl
      · trivial
    · intro V W hb hd K hK _
      have h1 : (V 19) = .pointer (some ⟨k3, 10, none⟩) := hd 1 (by kernel_rfl)
      clear hd
      obtain ⟨s0, s1, s2⟩ := HXC.out W hb
      go_wp2_with fail
      refine hK _ _ ?_ ?_ ?_ ?_
      · rfl
      · exact Below.refl _ _
      · exact rfl
      · trivial
    · intro V W hb hd K hK _
      clear hd
      go_wp2_with fail
      refine hK _ _ ?_ ?_ ?_ ?_
      · rfl
      · exact Below.refl _ _
      · exact rfl
      · trivial
    · intro V W hb hd K hK _
      have h3 : (V 21) = .pointer (some ⟨k3, 1, none⟩) := hd 3 (by kernel_rfl)
      clear hd
      go_wp2_with fail
      refine hK _ _ ?_ ?_ ?_ ?_
      · rfl
      · exact Below.refl _ _
      · exact rfl
      · trivial
    · intro V W hb hd K hK _
      have h4 : (V 22) = .pointer (some ⟨k3, 10, none⟩) := hd 4 (by kernel_rfl)
      clear hd
      obtain ⟨s0, s1, s2⟩ := HXC.out W hb
      go_wp2_with fail
      refine hK _ _ ?_ ?_ ?_ ?_
      · rfl
      · exact Below.refl _ _
      · exact rfl
      · trivial
    · intro V W hb hd K hK _
      have h5 : (V 23) = .slice (some ⟨g, 0, none⟩) n vc := hd 5 (by kernel_rfl)
      clear hd
      go_wp2_with fail
      refine hK _ _ ?_ ?_ ?_ ?_
      · rfl
      · exact Below.refl _ _
      · exact rfl
      · trivial
    · intro V W hb hd K hK _
      have h6 : (V 24) = .pointer (some ⟨g, 0, none⟩) := hd 6 (by kernel_rfl)
      clear hd
      go_wp2_with fail
      refine hK _ _ ?_ ?_ ?_ ?_
      · rfl
      · exact Below.refl _ _
      · exact rfl
      · trivial
    · intro V W hb hd K hK _
      have h7 : (V 25) = .pointer (some ⟨g, 1, none⟩) := hd 7 (by kernel_rfl)
      clear hd
      obtain ⟨s0, s1, s2⟩ := HXC.out W hb
      go_wp2_with fail
      refine hK _ _ ?_ ?_ ?_ ?_
      · rfl
      · exact Below.refl _ _
      · exact rfl
      · trivial
    · intro V W hb hd K hK _
      have h8 : (V 26) = .int .i64 x := hd 8 (by kernel_rfl)
      clear hd
      go_wp2_with fail
      refine hK _ _ ?_ ?_ ?_ ?_
      · rfl
      · exact Below.refl _ _
      · exact rfl
      · trivial
    · intro V W hb hd K hK _
      have h2 : (V 20) = .slice (some ⟨g, 0, none⟩) n vc := hd 2 (by kernel_rfl)
      clear hd
      go_wp2_with fail
      refine hK _ _ ?_ ?_ ?_ ?_
      · rfl
      · exact Below.refl _ _
      · exact rfl
      · trivial
    · intro V W hb hd K hK _
      have h10 : (V 28) = .pointer (some ⟨g, 0, none⟩) := hd 10 (by kernel_rfl)
      clear hd
      go_wp2_with fail
      refine hK _ _ ?_ ?_ ?_ ?_
      · rfl
      · exact Below.refl _ _
      · exact rfl
      · trivial
    · intro V W hb hd hap
      have h9 : (V 27) = .int .i64 (bits .xor .i64 x 1) := hd 9 (by decide)
      have h11 : (V 29) = .pointer (some ⟨g, 1, none⟩) := hd 11 (by decide)
      clear hd hap
      simp only [List.drop_succ_cons, List.drop_zero]
      have HFIN := Lib.hid (show w.grownBy (W.setCell ⟨g, 1, none⟩ (.int .i64 (bits .xor .i64 x 1))) (Value.slice (some ⟨g, 0, none⟩) n vc).ownBlock from grown_setCell (Mut.grown_below (below_then HB.out (Nat.le_refl _) hb) _) (Or.inl rfl) _)
      obtain ⟨s0, s1, s2⟩ := HXC.out _ hb
      clear hb
      go_wp2_with fail
      go_ret
      exact ⟨rfl, HFIN.out⟩
end Go.Proofs.YtemckpmedjennaaGreatDoor.NetG
