/- Layer 30 (trace): Mut. PRINTED by wip/gentrcmut.py. -/
import Derived.Test.YtljlbkichcjlfaaGreatDoorTrcMut
set_option linter.unusedSimpArgs false
set_option linter.unusedVariables false
namespace Go.Proofs.YtljlbkichcjlfaaGreatDoor.Trc
open Go.RowKit Go.Proofs.YtljlbkichcjlfaaGreatDoor.RegInv Go.Proofs.YtljlbkichcjlfaaGreatDoor.Mut Go.Proofs.YtljlbkichcjlfaaGreatDoor.Ints
set_option linter.unusedSectionVars false
variable [Inhabited Lim]

set_option maxRecDepth 100000 in
set_option maxHeartbeats 1000000 in
theorem mut_any (x : Ro) (w : World) (hT : Tabs w) (hx : Small x.1) : Calls Tryz.prog 22 #[vM x] w fun e w' => e = .returned (.string (mutF x.1)) ∧ Below w.heap.size w w' := by
  have HWH := Lib.hid (fun W => what_any x W)
  have HST := Lib.hid (fun W => stamp_any x.1.at_ W)
  have HQU := Lib.hid (fun W (h : Tabs W) => quote_any x.1.val W h hx.val)
  have h1 := whatF_size x.1.kind
  have h2 := stampF_size x.1.at_
  have h3 := quoteF_size x.1.val
  have h4 := hx.key
  have h5 := hx.fin
  have h6 := hx.val
  have h7 : spF.size = 1 := rfl
  have HT := Lib.hid hT
  obtain ⟨⟨table, k, key, fin, val, expiry, ⟨ap, al, aw⟩, ovr⟩, v⟩ := x
  unfold mutF mut2 mut1 mut0
  unfold vM at HWH ⊢
  unfold vS at HST
  simp only [] at HWH HST HQU h1 h2 h3 h4 h5 h6 ⊢
  obtain ⟨wh, hwh⟩ : ∃ b, b = whatF k := ⟨_, rfl⟩
  rw [← hwh] at h1 HWH ⊢
  obtain ⟨ss, hss⟩ : ∃ b, b = stampF ⟨ap, al, aw⟩ := ⟨_, rfl⟩
  rw [← hss] at h2 HST ⊢
  obtain ⟨qq, hqq⟩ : ∃ b, b = quoteF val := ⟨_, rfl⟩
  rw [← hqq] at h3 HQU ⊢
  clear hwh hss hqq hT hx
  have HC0 := Lib.hid (CellsAt.new w [.int .i64 table, .int .i64 k, .string key, .string fin, .string val, .int .i64 expiry, .int .i64 ap, .int .i64 al, .int .i64 aw, v] 32)
  obtain ⟨W0, hW0⟩ : ∃ W0, W0 = w.alloc (.cells #[.int .i64 table, .int .i64 k, .string key, .string fin, .string val, .int .i64 expiry, .int .i64 ap, .int .i64 al, .int .i64 aw, v] 32) := ⟨_, rfl⟩
  have HC := Lib.hid (show CellsAt W0 w.heap.size [.int .i64 table, .int .i64 k, .string key, .string fin, .string val, .int .i64 expiry, .int .i64 ap, .int .i64 al, .int .i64 aw, v] from by rw [hW0]; exact HC0.out)
  have HB0 := Lib.hid (show Below w.heap.size w W0 by rw [hW0]; exact (Below.refl _ w).alloc (Nat.le_refl _) _)
  have HLD := Lib.hid (fun W (h : Below W0.heap.size W0 W) => (HC.out.below h).load 0 32 [.int .i64 table, .int .i64 k, .string key, .string fin, .string val, .int .i64 expiry, .int .i64 ap, .int .i64 al, .int .i64 aw, v] _ (CellsAt.cut rfl) Tryz.underlying32 rfl size_M)
  have HLS := Lib.hid (fun W (h : Below W0.heap.size W0 W) => (HC.out.below h).load 6 29 [.int .i64 ap, .int .i64 al, .int .i64 aw] _ (CellsAt.cut rfl) Tryz.underlying29 rfl (by kernel_rfl))
  have HW := Lib.hid hW0
  have k1 : (wh ++ spF).size ≤ 5 := by rw [ByteArray.size_append]; omega
  have k2 : (wh ++ spF ++ key).size ≤ 1000005 := by rw [ByteArray.size_append]; omega
  have k3 : (spF ++ fin).size ≤ 1000001 := by rw [ByteArray.size_append]; omega
  have k4 : (spF ++ ss).size ≤ 63 := by rw [ByteArray.size_append]; omega
  have k5 : (spF ++ qq).size ≤ 5000003 := by rw [ByteArray.size_append]; omega
  have k6 : (wh ++ spF ++ key ++ (spF ++ fin)).size ≤ 2000006 := by rw [ByteArray.size_append]; omega
  have k7 : (wh ++ spF ++ key ++ (spF ++ fin) ++ (spF ++ ss)).size ≤ 2000069 := by rw [ByteArray.size_append]; omega
  have k8 : (wh ++ spF ++ key ++ (spF ++ ss)).size ≤ 1000068 := by rw [ByteArray.size_append]; omega
  clear hW0 HC0
  go_enter Tryz.func22, Tryz.ntmps22
  go_upto_region 1 with fail
  rw [← HW.out]
  refine wp_region_told [] 6 [false, false, false, false, true, true, true, true, true, true, false, false, false, false, false, false, false, false, false, false, false, false, false, false, false, false, false, false, false, false, false, false, false, false]
    [sLit (.agg #[.int .i64 table, .int .i64 k, .string key, .string fin, .string val, .int .i64 expiry, .int .i64 ap, .int .i64 al, .int .i64 aw, v]),
    sLit (.string wh),
    sLit (.string (wh ++ spF)),
    sLit (.pointer (some ⟨w.heap.size, 2, none⟩)),
    sLit (.string key),
    sLit (.string (wh ++ spF ++ key))] (by kernel_rfl) (by kernel_rfl) (by kernel_rfl) (fun F hF => ?_)
  simp only [over, overL, Nat.reduceAdd] at hF
  obtain rfl := funext hF
  clear hF
  refine ⟨⟨?_, ?_, ?_, ?_, ?_, ?_, trivial⟩, ?_⟩
  · intro V W hb hd K hK _
    clear hd
    have s0 := (HC.out.below hb).get 0 _ rfl
    have s1 := (HC.out.below hb).get 1 _ rfl
    have s2 := (HC.out.below hb).get 2 _ rfl
    have s3 := (HC.out.below hb).get 3 _ rfl
    have s4 := (HC.out.below hb).get 4 _ rfl
    have s5 := (HC.out.below hb).get 5 _ rfl
    have s6 := (HC.out.below hb).get 6 _ rfl
    have s7 := (HC.out.below hb).get 7 _ rfl
    have s8 := (HC.out.below hb).get 8 _ rfl
    have s9 := (HC.out.below hb).get 9 _ rfl
    go_wp2_with fail
    refine hK _ _ ?_ ?_ ?_ ?_
    · rfl
    · exact Below.refl _ _
    · exact rfl
    · trivial
  · intro V W hb hd K hK _
    have h0 : (V 4) = .agg #[.int .i64 table, .int .i64 k, .string key, .string fin, .string val, .int .i64 expiry, .int .i64 ap, .int .i64 al, .int .i64 aw, v] := hd 0 (by kernel_rfl)
    clear hd
    go_wp2_with fail
    refine (HWH.out W).mono ?_
    rintro e w1 ⟨rfl, hb1⟩
    go_wp2_with fail
    refine hK _ _ ?_ ?_ ?_ ?_
    · rfl
    · exact hb1
    · exact rfl
    · trivial
  · intro V W hb hd K hK _
    have h1 : (V 5) = .string wh := hd 1 (by kernel_rfl)
    clear hd
    go_wp2_with fail
    refine hK _ _ ?_ ?_ ?_ ?_
    · rfl
    · exact Below.refl _ _
    · exact rfl
    · trivial
  · intro V W hb hd K hK _
    clear hd
    go_wp2_with fail
    refine hK _ _ ?_ ?_ ?_ ?_
    · rfl
    · exact Below.refl _ _
    · exact rfl
    · trivial
  · intro V W hb hd K hK _
    have h3 : (V 7) = .pointer (some ⟨w.heap.size, 2, none⟩) := hd 3 (by kernel_rfl)
    clear hd
    have s2 := (HC.out.below hb).get 2 _ rfl
    go_wp2_with fail
    refine hK _ _ ?_ ?_ ?_ ?_
    · rfl
    · exact Below.refl _ _
    · exact rfl
    · trivial
  · intro V W hb hd K hK _
    have h2 : (V 6) = .string (wh ++ spF) := hd 2 (by kernel_rfl)
    have h4 : (V 8) = .string key := hd 4 (by kernel_rfl)
    clear hd
    go_wp2_with fail
    refine hK _ _ ?_ ?_ ?_ ?_
    · rfl
    · exact Below.refl _ _
    · exact rfl
    · trivial
  · intro V W hb hd hap
    have h5 : (V 9) = .string (wh ++ spF ++ key) := hd 5 (by decide)
    clear hd hap
    simp only [List.drop_succ_cons, List.drop_zero]
    have HBW := Lib.hid (below_then HB0.out (Nat.le_refl _) hb)
    have HCW := Lib.hid (fun W2 (h : Below W.heap.size W W2) => (HC.out.below hb).below h)
    clear hb
    by_cases e3 : k = 3
    · subst e3
      have s1 := (HCW.out W (Below.refl _ _)).get 1 _ rfl
      have s3 := (HCW.out W (Below.refl _ _)).get 3 _ rfl
      have s6 := (HCW.out W (Below.refl _ _)).get 6 _ rfl
      have s7 := (HCW.out W (Below.refl _ _)).get 7 _ rfl
      have s8 := (HCW.out W (Below.refl _ _)).get 8 _ rfl
      go_wp2_with fail
      refine (HST.out W).mono ?_
      rintro e w2 ⟨rfl, hb2⟩
      clear s1 s3 s6 s7 s8
      have s1 := (HCW.out w2 hb2).get 1 _ rfl
      have s4 := (HCW.out w2 hb2).get 4 _ rfl
      have HB2 := Lib.hid (below_then HBW.out (Nat.le_refl _) hb2)
      clear hb2
      go_wp2_with fail
      go_ret
      exact ⟨rfl, HB2.out⟩
    · by_cases e1 : k = 1
      · subst e1
        have s1 := (HCW.out W (Below.refl _ _)).get 1 _ rfl
        have s3 := (HCW.out W (Below.refl _ _)).get 3 _ rfl
        have s6 := (HCW.out W (Below.refl _ _)).get 6 _ rfl
        have s7 := (HCW.out W (Below.refl _ _)).get 7 _ rfl
        have s8 := (HCW.out W (Below.refl _ _)).get 8 _ rfl
        go_wp2_with fail
        refine (HST.out W).mono ?_
        rintro e w2 ⟨rfl, hb2⟩
        clear s1 s3 s6 s7 s8
        have s1 := (HCW.out w2 hb2).get 1 _ rfl
        have s4 := (HCW.out w2 hb2).get 4 _ rfl
        have HB2 := Lib.hid (below_then HBW.out (Nat.le_refl _) hb2)
        clear hb2
        go_wp2_with fail
        refine (HQU.out w2 (HT.out.below HB2.out)).mono ?_
        rintro e w3 ⟨rfl, hb3⟩
        have HB3 := Lib.hid (below_then HB2.out (Nat.le_refl _) hb3)
        clear hb3 s1 s4
        go_wp2_with fail
        go_ret
        exact ⟨rfl, HB3.out⟩
      · have n3 : (k == 3) = false := by rw [beq_eq_false_iff_ne]; exact e3
        have n1 : (k == 1) = false := by rw [beq_eq_false_iff_ne]; exact e1
        have HE := Lib.hid (And.intro e3 e1)
        have s1 := (HCW.out W (Below.refl _ _)).get 1 _ rfl
        have s3 := (HCW.out W (Below.refl _ _)).get 3 _ rfl
        have s6 := (HCW.out W (Below.refl _ _)).get 6 _ rfl
        have s7 := (HCW.out W (Below.refl _ _)).get 7 _ rfl
        have s8 := (HCW.out W (Below.refl _ _)).get 8 _ rfl
        go_wp2_with fail
        refine (HST.out W).mono ?_
        rintro e w2 ⟨rfl, hb2⟩
        clear s1 s3 s6 s7 s8
        have s1 := (HCW.out w2 hb2).get 1 _ rfl
        have s4 := (HCW.out w2 hb2).get 4 _ rfl
        have HB2 := Lib.hid (below_then HBW.out (Nat.le_refl _) hb2)
        clear hb2
        go_wp2_with fail
        go_ret
        exact ⟨by first | rfl | (rw [if_neg HE.out.2, if_neg HE.out.1]; rfl), HB2.out⟩
end Go.Proofs.YtljlbkichcjlfaaGreatDoor.Trc
