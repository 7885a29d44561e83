/- Ref29, Alive29: in one text. -/
import Derived.Test.YtipoeigehabbmaaGreatDoorBoth29
import Derived.Test.YtipoeigehabbmaaGreatDoorFixWalk
import Derived.Test.YtipoeigehabbmaaGreatDoorUnionAlive
/- The references of layer 25's and 29's laws: ref04.Max, ref25.Base, ref25.Counts, the law's merge. PRINTED by wip/genref29.py. -/
set_option linter.unusedSimpArgs false
set_option linter.unusedVariables false
namespace Go.Proofs.YtipoeigehabbmaaGreatDoor.Mut
open Go.RowKit Go.Sort Go.Proofs.YtipoeigehabbmaaGreatDoor.Ord Go.Proofs.YtipoeigehabbmaaGreatDoor.RegInv
set_option linter.unusedSectionVars false
variable [Inhabited Lim]

set_option maxHeartbeats 2000000 in
set_option maxRecDepth 100000 in
theorem refmax_any (a b : Stp) (w : World) : Calls Tryz.prog 34 #[vS a, vS b] w (RetS (maxS a b) w) := by
  have HL := Lib.hid (fun W => refst_any a b W)
  obtain ⟨Q, hQ⟩ : ∃ Q, Q = stC a b := ⟨_, rfl⟩
  rw [← hQ] at HL
  obtain ⟨M, hM⟩ : ∃ M, M = maxS a b := ⟨_, rfl⟩
  have HM := Lib.hid (show M = if Q < 0 then b else a by rw [hM, hQ]; rfl)
  rw [← hM]
  obtain ⟨W0, hW0⟩ : ∃ W0, W0 = ((w.alloc (.cells #[.int .i64 a.p, .int .i64 a.l, .int .i64 a.w] 32)).alloc (.cells #[.int .i64 b.p, .int .i64 b.l, .int .i64 b.w] 32)).alloc (.cells #[.int .i64 0, .int .i64 0, .int .i64 0] 32) := ⟨_, rfl⟩
  have hb0 : RowKit.Below w.heap.size w W0 := by rw [hW0]; exact (((Below.refl _ w).alloc (Nat.le_refl _) _).alloc (by simp) _).alloc (by simp; omega) _
  have hA : S3 W0 w.heap.size a := by
    rw [hW0]
    exact ((S3.new w a).below ((Below.refl _ _).alloc (Nat.le_refl _) _)).below ((Below.refl _ _).alloc (Nat.le_refl _) _)
  have hB : S3 W0 (w.heap.size + 1) b := by
    rw [hW0]
    have := S3.new (w.alloc (.cells #[.int .i64 a.p, .int .i64 a.l, .int .i64 a.w] 32)) b
    rw [World.size_alloc] at this
    exact this.below ((Below.refl _ _).alloc (Nat.le_refl _) _)
  have hT : S3 W0 (w.heap.size + 1 + 1) zeroS := by
    rw [hW0]
    have := S3.new ((w.alloc (.cells #[.int .i64 a.p, .int .i64 a.l, .int .i64 a.w] 32)).alloc (.cells #[.int .i64 b.p, .int .i64 b.l, .int .i64 b.w] 32)) zeroS
    rw [World.size_alloc, World.size_alloc] at this
    exact this
  have HA := Lib.hid hA
  have HB := Lib.hid hB
  have HT := Lib.hid hT
  have HB0 := Lib.hid hb0
  have HW := Lib.hid hW0
  clear hA hB hT hb0 hW0 hQ hM
  obtain ⟨ap, al, aw⟩ := a
  obtain ⟨bp, bl, bw⟩ := b
  unfold RetS
  unfold vS at HL ⊢
  simp only [] at HL ⊢
  go_enter Tryz.func34, Tryz.ntmps34
  go_upto_region 1 with fail
  rw [← HW.out]
  clear HW
  obtain ⟨-, a0, a1, a2, -⟩ := HA.out
  obtain ⟨-, b0, b1, b2, -⟩ := HB.out
  simp only [] at a0 a1 a2 b0 b1 b2
  go_wp2_with fail
  refine (HL.out _).mono ?_
  rintro e w1 ⟨rfl, hb⟩
  have HB1 := Lib.hid (show RowKit.Below W0.heap.size W0 w1 from hb)
  have HT1 := Lib.hid (HT.out.below hb)
  have HA1 := Lib.hid (HA.out.below hb)
  have HBb := Lib.hid (HB.out.below hb)
  clear hb a0 a1 a2 b0 b1 b2
  obtain ⟨-, a0, a1, a2, -⟩ := HA1.out
  obtain ⟨-, b0, b1, b2, -⟩ := HBb.out
  obtain ⟨-, t0, t1, t2, f0, f1, f2⟩ := HT1.out
  simp only [] at a0 a1 a2 b0 b1 b2 t0 t1 t2
  by_cases hq : Q < 0
  · have hg : decide (Q ≥ 0) = false := by rw [bool_ge, decide_eq_true hq]; rfl
    go_wp2_with fail
    obtain ⟨-, u0, u1, u2, -⟩ := s3_put HT1.out ⟨bp, bl, bw⟩
    simp only [] at u0 u1 u2
    refine bodyPost_ret (v := .agg #[.int .i64 bp, .int .i64 bl, .int .i64 bw]) (by simp [results, Tryz.f34, go_sem, u0, u1, u2]) rfl ?_
    exact ⟨by rw [HM.out, if_pos hq], s3_put_below (below_then HB0.out (Nat.le_refl _) HB1.out) (by omega) _ _ _⟩

  · have hg : decide (Q ≥ 0) = true := by rw [bool_ge, decide_eq_false hq]; rfl
    go_wp2_with fail
    obtain ⟨-, u0, u1, u2, -⟩ := s3_put HT1.out ⟨ap, al, aw⟩
    simp only [] at u0 u1 u2
    refine bodyPost_ret (v := .agg #[.int .i64 ap, .int .i64 al, .int .i64 aw]) (by simp [results, Tryz.f34, go_sem, u0, u1, u2]) rfl ?_
    exact ⟨by rw [HM.out, if_neg (by omega)], s3_put_below (below_then HB0.out (Nat.le_refl _) HB1.out) (by omega) _ _ _⟩
set_option maxHeartbeats 4000000 in
set_option maxRecDepth 100000 in
theorem refbase_any (v : Value) (R : List Rp) (w : World) (hv : RRow w v R) (hn : R.length ≤ 1000) :
    Calls Tryz.prog 90 #[v] w fun e w' => e = .returned (.tuple #[vS (baseF R).1, .bool (baseF R).2]) ∧ RowKit.Below w.heap.size w w' := by
  obtain ⟨ao, cap, rfl, -, -⟩ := hv.form
  obtain ⟨n, hN⟩ : ∃ n, n = R.length := ⟨_, rfl⟩
  rw [← hN] at hv hn ⊢
  obtain ⟨Q, hQ⟩ : ∃ Q, Q = baseF R := ⟨_, rfl⟩
  rw [← hQ]
  have HV := Lib.hid hv
  have HN := Lib.hid hN
  have HQ := Lib.hid hQ
  obtain ⟨W0, hW0⟩ : ∃ W0, W0 = (w.alloc (.cells #[.int .i64 0, .int .i64 0, .int .i64 0] 32)).alloc (.cells #[.int .i64 0, .int .i64 0, .int .i64 0] 32) := ⟨_, rfl⟩
  have HB0 := Lib.hid (show RowKit.Below w.heap.size w W0 by rw [hW0]; exact ((Below.refl _ w).alloc (Nat.le_refl _) _).alloc (by simp) _)
  have H2 := Lib.hid (show S3 W0 w.heap.size zeroS by rw [hW0]; exact (S3.new w zeroS).below ((Below.refl _ _).alloc (Nat.le_refl _) _))
  have H4 := Lib.hid (show S3 W0 (w.heap.size + 1) zeroS by
    rw [hW0]
    have := S3.new (w.alloc (.cells #[.int .i64 0, .int .i64 0, .int .i64 0] 32)) zeroS
    rwa [World.size_alloc] at this)
  have HW := Lib.hid hW0
  clear hv hN hQ hW0
  unfold vS
  go_enter Tryz.func90, Tryz.ntmps90
  go_upto_region 2 with fail
  rw [← HW.out]
  clear HW
  go_wp2_with fail
  go_loopw [5, 6] (fun ov iv wr => ∃ (k : Nat) (acc : Stp × Bool), k ≤ n ∧ iv = .int .i64 k ∧ ov = .bool acc.2 ∧ Hid ((R.drop k).foldl baseStep acc = Q) ∧ Hid (S3 wr (w.heap.size + 1) acc.1) ∧ Hid (S3 wr w.heap.size zeroS) ∧ Hid (RowKit.Below w.heap.size w wr)) (fun _ iv _ => n - (intOf iv).toNat)
  case atStart => exact ⟨0, (zeroS, false), by omega, rfl, rfl, Lib.hid (by rw [HQ.out]; rfl), H4, H2, HB0⟩
  case round =>
    obtain ⟨k, acc, hk, rfl, rfl, hput, h4, h2, hl⟩ := hrel
    by_cases hlt : k < n
    · have hkr : k < R.length := by have := HN.out; omega
      obtain ⟨xb, xoff, hao, hbl, a0, a1, a2, a3, a4, a5, a6⟩ := (HV.out.below hl.out).get hkr
      cases hao
      have hlie := (HV.out.below hl.out).con R[k] (List.getElem_mem hkr)
      have hst := hput.out
      rw [List.drop_eq_getElem_cons hkr, List.foldl_cons] at hst
      generalize R[k] = x at *
      obtain ⟨xa, xb', xd, xc, ⟨fp, fl, fw⟩, xq⟩ := x
      obtain ⟨o1, n1, k1, e1⟩ := hlie.cells.slice
      obtain ⟨o2, n2, k2, e2⟩ := hlie.wipes.slice
      obtain ⟨o3, n3, k3, e3⟩ := hlie.sibs.slice
      simp only [] at e1 e2 e3
      subst e1 e2 e3
      have HST := Lib.hid hst
      clear hst hlie hput
      simp only [] at a0 a1 a2 a3 a4 a5 a6
      have j0 : (0 : Int) ≤ (k : Int) := by omega
      have j1 : (k : Int) < (n : Int) := by omega
      cases xq
      · obtain ⟨accs, accb⟩ := acc
        obtain ⟨sp, sl, sw⟩ := accs
        have HM := Lib.hid (fun W => refmax_any ⟨sp, sl, sw⟩ ⟨fp, fl, fw⟩ W)
        unfold RetS at HM
        obtain ⟨mx, hmx⟩ : ∃ mx, mx = maxS ⟨sp, sl, sw⟩ ⟨fp, fl, fw⟩ := ⟨_, rfl⟩
        rw [← hmx] at HM
        have HS2 := Lib.hid (show (R.drop (k + 1)).foldl baseStep (mx, true) = Q by rw [← HST.out, hmx]; rfl)
        clear hmx
        obtain ⟨mp, ml, mw⟩ := mx
        unfold vS at HM
        simp only [] at HM
        have HA := Lib.hid (fun W (h : RowKit.Below wr.heap.size wr W) => show W.cell? ⟨xb, xoff + k * 7 + 3, none⟩ = some (.int .i64 fp) ∧ W.cell? ⟨xb, xoff + k * 7 + 3 + 1, none⟩ = some (.int .i64 fl) ∧ W.cell? ⟨xb, xoff + k * 7 + 3 + 2, none⟩ = some (.int .i64 fw) from
          ⟨(h.cell (p := ⟨xb, xoff + k * 7 + 3, none⟩) hbl).trans a3, (h.cell (p := ⟨xb, xoff + k * 7 + 3 + 1, none⟩) hbl).trans a4, (h.cell (p := ⟨xb, xoff + k * 7 + 3 + 2, none⟩) hbl).trans a5⟩)
        go_wp2_with fail
        refine wp_region_told [] 7 [false, false, false, false, false, false, false, false, false, false, false, false, false, false, false, false, false, false, false, false, true, true, true, true, true, true, true, false, false]
          [sLit (.agg #[.int .i64 sp, .int .i64 sl, .int .i64 sw]),
    sLit (.slice (some ⟨xb, xoff, none⟩) n cap),
    sLit (.int .i64 k),
    sLit (.pointer (some ⟨xb, xoff + k * 7, none⟩)),
    sLit (.pointer (some ⟨xb, xoff + k * 7 + 3, none⟩)),
    sLit (.agg #[.int .i64 fp, .int .i64 fl, .int .i64 fw]),
    sLit (.agg #[.int .i64 mp, .int .i64 ml, .int .i64 mw])] (by kernel_rfl) (by kernel_rfl) (by kernel_rfl) (fun F hF => ?_)
        simp only [over, overL, Nat.reduceAdd] at hF
        obtain rfl := funext hF
        clear hF
        refine ⟨⟨?_, ?_, ?_, ?_, ?_, ?_, ?_, trivial⟩, ?_⟩
        · intro V W hb hd K hK _
          clear hd
          obtain ⟨hl4, s0, s1, s2, -⟩ := h4.out.below hb
          simp only [] at s0 s1 s2
          go_wp2_with fail
          refine hK _ _ ?_ ?_ ?_ ?_
          · rfl
          · exact Below.refl _ _
          · exact rfl
          · trivial
        · intro V W hb hd K hK _
          clear hd
          go_wp2_with fail
          refine hK _ _ ?_ ?_ ?_ ?_
          · rfl
          · exact Below.refl _ _
          · exact rfl
          · trivial
        · intro V W hb hd K hK _
          clear hd
          go_wp2_with fail
          refine hK _ _ ?_ ?_ ?_ ?_
          · rfl
          · exact Below.refl _ _
          · exact rfl
          · trivial
        · intro V W hb hd K hK _
          have h1 : (V 21) = .slice (some ⟨xb, xoff, none⟩) n cap := hd 1 (by kernel_rfl)
          have h2 : (V 22) = .int .i64 k := hd 2 (by kernel_rfl)
          clear hd
          go_wp2_with fail
          refine hK _ _ ?_ ?_ ?_ ?_
          · rfl
          · exact Below.refl _ _
          · exact rfl
          · trivial
        · intro V W hb hd K hK _
          have h3 : (V 23) = .pointer (some ⟨xb, xoff + k * 7, none⟩) := hd 3 (by kernel_rfl)
          clear hd
          go_wp2_with fail
          refine hK _ _ ?_ ?_ ?_ ?_
          · rfl
          · exact Below.refl _ _
          · exact rfl
          · trivial
        · intro V W hb hd K hK _
          have h4 : (V 24) = .pointer (some ⟨xb, xoff + k * 7 + 3, none⟩) := hd 4 (by kernel_rfl)
          clear hd
          obtain ⟨a3, a4, a5⟩ := HA.out W hb
          go_wp2_with fail
          refine hK _ _ ?_ ?_ ?_ ?_
          · rfl
          · exact Below.refl _ _
          · exact rfl
          · trivial
        · intro V W hb hd K hK _
          have h0 : (V 20) = .agg #[.int .i64 sp, .int .i64 sl, .int .i64 sw] := hd 0 (by kernel_rfl)
          have h5 : (V 25) = .agg #[.int .i64 fp, .int .i64 fl, .int .i64 fw] := hd 5 (by kernel_rfl)
          clear hd
          go_wp2_with fail
          refine (HM.out W).mono ?_
          rintro e w1 ⟨rfl, hb1⟩
          go_wp2_with fail
          refine hK _ _ ?_ ?_ ?_ ?_
          · rfl
          · exact hb1
          · exact rfl
          · trivial
        · intro V W hb hd hap
          have h6 : (V 26) = .agg #[.int .i64 mp, .int .i64 ml, .int .i64 mw] := hd 6 (by decide)
          clear hd hap
          simp only [List.drop_succ_cons, List.drop_zero]
          have H4a := Lib.hid (h4.out.below hb)
          have H2a := Lib.hid (h2.out.below hb)
          have HBa := Lib.hid (below_then hl.out (Nat.le_refl _) hb)
          clear hb
          obtain ⟨hl4, s0, s1, s2, f0, f1, f2⟩ := H4a.out
          simp only [] at s0 s1 s2
          go_wp2_with fail
          go_roundw
          case rel => exact ⟨k + 1, (⟨mp, ml, mw⟩, true), by omega, by go_num, rfl, HS2, Lib.hid (s3_put H4a.out ⟨mp, ml, mw⟩), Lib.hid (((H2a.out.other (by omega)).other (by omega)).other (by omega)), Lib.hid (s3_put_below HBa.out (by omega) _ _ _)⟩
          case measure => simp [intOf]; omega
      · have HS2 := Lib.hid (show (R.drop (k + 1)).foldl baseStep acc = Q from HST.out)
        go_wp2_with fail
        go_roundw
        case rel => exact ⟨k + 1, acc, by omega, by go_num, rfl, HS2, h4, h2, hl⟩
        case measure => simp [intOf]; omega
    · obtain rfl : k = n := by omega
      have HQ2 := Lib.hid (show acc = Q by have h := hput.out; rw [List.drop_of_length_le (by have := HN.out; omega)] at h; exact h)
      obtain ⟨hl4, s0, s1, s2, -⟩ := h4.out
      obtain ⟨hl2, t0, t1, t2, f0, f1, f2⟩ := h2.out
      go_wp2_with fail
      obtain ⟨-, u0, u1, u2, -⟩ := s3_put h2.out acc.1
      refine bodyPost_ret (v := .tuple #[.agg #[.int .i64 acc.1.p, .int .i64 acc.1.l, .int .i64 acc.1.w], .bool acc.2]) (by simp [results, Tryz.f90, go_sem, u0, u1, u2]) rfl ?_
      exact ⟨by rw [← HQ2.out], s3_put_below hl.out (by omega) _ _ _⟩
set_option maxHeartbeats 4000000 in
set_option maxRecDepth 100000 in
theorem c_refcounts (x : Rp) (n : Nat) (s : Stp) (w : World) (hl : Lies w x.a x.b x.d x.c) (hG : Good x.c n) (hn : n ≤ 100000) :
    Calls Tryz.prog 91 #[vR x, vS s] w (RetC (countsF x s) w) := by
  have HAb := Lib.hid (fun W (h : RowKit.Below w.heap.size w W) => show Calls Tryz.prog 157 #[.agg #[x.a, x.b, x.d], vS s, .bool true] W (RetC (x.c.filter (aboveB s)) W) from by
    have e : aboveB s = fun m => decide (stC s m.at_ < 0) == true := by funext m; unfold aboveB; simp
    rw [e]
    exact c_refsplit (n := n) s true (hl.below h).is hG hn)
  have hcf : countsF x s = if (!x.q && eqT x.f s) = true then x.c else x.c.filter (aboveB s) := rfl
  obtain ⟨xa, xb, xd, xc, ⟨fp, fl, fw⟩, xq⟩ := x
  obtain ⟨sp, sl, sw⟩ := s
  obtain ⟨o1, n1, k1, e1⟩ := hl.cells.slice
  obtain ⟨o2, n2, k2, e2⟩ := hl.wipes.slice
  obtain ⟨o3, n3, k3, e3⟩ := hl.sibs.slice
  simp only [] at e1 e2 e3
  subst e1 e2 e3
  obtain ⟨E, hE⟩ : ∃ E, eqT ⟨fp, fl, fw⟩ ⟨sp, sl, sw⟩ = E := ⟨_, rfl⟩
  simp only [] at hcf HAb hl
  rw [hE] at hcf
  have hq1 := neqT_run _ _ _ hE
  simp only [] at hq1
  have hq2 := guardT_run .neq
  obtain ⟨CF, hCF⟩ : ∃ CF, CF = countsF ⟨.slice o1 n1 k1, .slice o2 n2 k2, .slice o3 n3 k3, xc, ⟨fp, fl, fw⟩, xq⟩ ⟨sp, sl, sw⟩ := ⟨_, rfl⟩
  rw [← hCF] at hcf ⊢
  have HCF := Lib.hid hcf
  have HL := Lib.hid hl
  unfold vR
  unfold vS at HAb ⊢
  simp only [] at HAb ⊢
  clear hcf hE hCF hl hG hn
  obtain ⟨W0, hW0⟩ : ∃ W0, W0 = ((w.alloc (.cells #[.slice o1 n1 k1, .slice o2 n2 k2, .slice o3 n3 k3, .int .i64 fp, .int .i64 fl, .int .i64 fw, .bool xq] 71)).alloc (.cells #[.int .i64 sp, .int .i64 sl, .int .i64 sw] 32)).alloc (.cells #[.slice none 0 0, .slice none 0 0, .slice none 0 0] 38) := ⟨_, rfl⟩
  have hb0 : RowKit.Below w.heap.size w W0 := by rw [hW0]; exact (((Below.refl _ w).alloc (Nat.le_refl _) _).alloc (by simp) _).alloc (by simp; omega) _
  have hT : C3 W0 (w.heap.size + 1 + 1) (.slice none 0 0) (.slice none 0 0) (.slice none 0 0) := by
    rw [hW0]
    have := C3.newR ((w.alloc (.cells #[.slice o1 n1 k1, .slice o2 n2 k2, .slice o3 n3 k3, .int .i64 fp, .int .i64 fl, .int .i64 fw, .bool xq] 71)).alloc (.cells #[.int .i64 sp, .int .i64 sl, .int .i64 sw] 32)) (.slice none 0 0) (.slice none 0 0) (.slice none 0 0)
    rwa [World.size_alloc, World.size_alloc] at this
  have hS : S3 W0 (w.heap.size + 1) ⟨sp, sl, sw⟩ := by
    rw [hW0]
    have := S3.new (w.alloc (.cells #[.slice o1 n1 k1, .slice o2 n2 k2, .slice o3 n3 k3, .int .i64 fp, .int .i64 fl, .int .i64 fw, .bool xq] 71)) ⟨sp, sl, sw⟩
    rw [World.size_alloc] at this
    exact this.below ((Below.refl _ _).alloc (Nat.le_refl _) _)
  have c0 : W0.cell? ⟨w.heap.size, 0, none⟩ = some (.slice o1 n1 k1) := by rw [hW0]; go_simp
  have c1 : W0.cell? ⟨w.heap.size, 1, none⟩ = some (.slice o2 n2 k2) := by rw [hW0]; go_simp
  have c2 : W0.cell? ⟨w.heap.size, 2, none⟩ = some (.slice o3 n3 k3) := by rw [hW0]; go_simp
  have c3 : W0.cell? ⟨w.heap.size, 3, none⟩ = some (.int .i64 fp) := by rw [hW0]; go_simp
  have c4 : W0.cell? ⟨w.heap.size, 4, none⟩ = some (.int .i64 fl) := by rw [hW0]; go_simp
  have c5 : W0.cell? ⟨w.heap.size, 5, none⟩ = some (.int .i64 fw) := by rw [hW0]; go_simp
  have c6 : W0.cell? ⟨w.heap.size, 6, none⟩ = some (.bool xq) := by rw [hW0]; go_simp
  have HT := Lib.hid hT
  have HS := Lib.hid hS
  have HB0 := Lib.hid hb0
  have HW := Lib.hid hW0
  clear hT hS hb0 hW0
  go_enter Tryz.func91, Tryz.ntmps91
  go_upto_region 1 with fail
  rw [← HW.out]
  clear HW
  obtain ⟨hls, s0, s1, s2, -⟩ := HS.out
  simp only [] at s0 s1 s2
  obtain ⟨-, t0, t1, t2, f0, f1, f2⟩ := HT.out
  have done : ∀ (W : World) (p1 p2 p3 : Value), True := fun _ _ _ _ => trivial
  cases xq <;> cases E
  case false.true =>
    have HC := Lib.hid (show CF = xc from HCF.out)
    go_wp2_with fail
    obtain ⟨-, u0, u1, u2, -⟩ := c3_put HT.out (.slice o1 n1 k1) (.slice o2 n2 k2) (.slice o3 n3 k3)
    refine bodyPost_ret (v := .agg #[.slice o1 n1 k1, .slice o2 n2 k2, .slice o3 n3 k3]) (by simp [results, Tryz.f91, go_sem, u0, u1, u2]) rfl ?_
    exact ⟨_, rfl, by rw [HC.out]; exact ((HL.out.below HB0.out).plain3 (plain3 HT.out _ _ _)).is, c3_put_below HB0.out (by omega) _ _ _⟩
  all_goals
    have HC := Lib.hid (show CF = xc.filter (aboveB ⟨sp, sl, sw⟩) from HCF.out)
    go_wp2_with fail
    refine (HAb.out _ HB0.out).mono ?_
    rintro e w1 ⟨v1, rfl, hc, hb⟩
    obtain ⟨o4, n4, k4, o5, n5, k5, o6, n6, k6, rfl, hl1⟩ := hc.form
    have HL1 := Lib.hid hl1
    have HB1 := Lib.hid (below_then HB0.out (Nat.le_refl _) hb)
    have HT1 := Lib.hid (HT.out.below hb)
    clear hc hb hl1 t0 t1 t2 f0 f1 f2 s0 s1 s2 c0 c1 c2 c3 c4 c5 c6
    obtain ⟨-, t0, t1, t2, f0, f1, f2⟩ := HT1.out
    go_wp2_with fail
    obtain ⟨-, u0, u1, u2, -⟩ := c3_put HT1.out (.slice o4 n4 k4) (.slice o5 n5 k5) (.slice o6 n6 k6)
    refine bodyPost_ret (v := .agg #[.slice o4 n4 k4, .slice o5 n5 k5, .slice o6 n6 k6]) (by simp [results, Tryz.f91, go_sem, u0, u1, u2]) rfl ?_
    exact ⟨_, rfl, by rw [HC.out]; exact (HL1.out.plain3 (plain3 HT1.out _ _ _)).is, c3_put_below HB1.out (by omega) _ _ _⟩

def rmergeF (R : List Rp) : Con := (R.map (fun x => countsF x (baseF R).1)).foldl joinC ⟨[], [], []⟩
/-- A content, a stamp come back. -/
def RetCS (c : Con) (s : Stp) (w : World) (e : Ending) (w' : World) : Prop := ∃ v, e = .returned (.tuple #[v, vS s]) ∧ IsC c v w' ∧ RowKit.Below w.heap.size w w'

set_option maxHeartbeats 8000000 in
set_option maxRecDepth 100000 in
theorem rmerge_any (v : Value) (R : List Rp) (m : Nat) (w : World) (hT : Tabs w) (hv : RRow w v R) (hG : ∀ x ∈ R, Good x.c m) (hn : R.length ≤ 80) (hm : m ≤ 100) :
    Calls Tryz.prog 28 #[v] w (RetCS (rmergeF R) (baseF R).1 w) := by
  have HBase := Lib.hid (fun W (h : RowKit.Below w.heap.size w W) => refbase_any v R W (hv.below h) (by omega))
  obtain ⟨ao, cap, rfl, -, -⟩ := hv.form
  obtain ⟨n, hN⟩ : ∃ n, n = R.length := ⟨_, rfl⟩
  rw [← hN] at hv hn HBase ⊢
  obtain ⟨qc, hQ⟩ : ∃ Q, Q = rmergeF R := ⟨_, rfl⟩
  rw [← hQ]
  unfold rmergeF at hQ
  obtain ⟨bs, hbs⟩ : ∃ bs, bs = baseF R := ⟨_, rfl⟩
  rw [← hbs] at HBase hQ ⊢
  obtain ⟨⟨bp, bl, bw⟩, bq⟩ := bs
  have HQ := Lib.hid hQ
  have HT := Lib.hid hT
  have HV := Lib.hid hv
  have HG := Lib.hid hG
  have HN := Lib.hid hN
  obtain ⟨W0, hW0⟩ : ∃ W0, W0 = (w.alloc (.cells #[.slice none 0 0, .slice none 0 0, .slice none 0 0] 38)).alloc (.cells #[.int .i64 0, .int .i64 0, .int .i64 0] 32) := ⟨_, rfl⟩
  have HB0 := Lib.hid (show RowKit.Below w.heap.size w W0 by rw [hW0]; exact ((Below.refl _ w).alloc (Nat.le_refl _) _).alloc (by simp) _)
  have HC0 := Lib.hid (show C3 W0 w.heap.size (.slice none 0 0) (.slice none 0 0) (.slice none 0 0) by
    rw [hW0]
    exact (C3.newR w (.slice none 0 0) (.slice none 0 0) (.slice none 0 0)).below ((Below.refl _ _).alloc (Nat.le_refl _) _))
  have HZ0 := Lib.hid (show Z3 W0 (w.heap.size + 1) by
    rw [hW0]
    have := Z3.new (w.alloc (.cells #[.slice none 0 0, .slice none 0 0, .slice none 0 0] 38))
    rwa [World.size_alloc] at this)
  have HW := Lib.hid hW0
  clear hT hv hG hN hQ hbs hW0
  unfold RetCS
  unfold vS at HBase ⊢
  simp only [] at HBase HQ ⊢
  go_enter Tryz.func28, Tryz.ntmps28
  go_upto_region 1 with fail
  rw [← HW.out]
  clear HW
  go_wp2_with fail
  refine (HBase.out _ HB0.out).mono ?_
  rintro e w1 ⟨rfl, hb⟩
  have HB1 := Lib.hid (below_then HB0.out (Nat.le_refl _) hb)
  have HC1 := Lib.hid (HC0.out.below hb)
  have HZ1 := Lib.hid (HZ0.out.below hb)
  clear hb HC0 HZ0 HB0 HBase
  go_upto_region 3 with fail
  obtain ⟨W2, hW2⟩ : ∃ W2, W2 = (w1.alloc (.cells #[.int .i64 bp, .int .i64 bl, .int .i64 bw] 32)).alloc (.cells #[.slice none 0 0, .slice none 0 0, .slice none 0 0] 38) := ⟨_, rfl⟩
  rw [← hW2]
  have hb2 : RowKit.Below w1.heap.size w1 W2 := by rw [hW2]; exact ((Below.refl _ w1).alloc (Nat.le_refl _) _).alloc (by simp) _
  have h7 : S3 W2 w1.heap.size ⟨bp, bl, bw⟩ := by rw [hW2]; exact (S3.new w1 ⟨bp, bl, bw⟩).below ((Below.refl _ _).alloc (Nat.le_refl _) _)
  have h9 : C3 W2 (w1.heap.size + 1) (.slice none 0 0) (.slice none 0 0) (.slice none 0 0) := by
    rw [hW2]
    have := C3.newR (w1.alloc (.cells #[.int .i64 bp, .int .i64 bl, .int .i64 bw] 32)) (.slice none 0 0) (.slice none 0 0) (.slice none 0 0)
    rwa [World.size_alloc] at this
  have hk : w.heap.size + 1 < w1.heap.size := HZ1.out.s.lt
  obtain ⟨k7, hk7⟩ : ∃ k, k = w1.heap.size := ⟨_, rfl⟩
  have hkk : w.heap.size + 1 < k7 := by omega
  rw [← hk7] at h7 h9 ⊢
  obtain ⟨k9, hk9⟩ : ∃ k, k = k7 + 1 := ⟨_, rfl⟩
  have hk97 : k7 < k9 := by omega
  rw [← hk9] at h9 ⊢
  have H7 := Lib.hid h7
  have H9 := Lib.hid (show ∃ o4 n4 c4 o5 n5 c5 o6 n6 c6, C3 W2 k9 (.slice o4 n4 c4) (.slice o5 n5 c5) (.slice o6 n6 c6) ∧ Lies W2 (.slice o4 n4 c4) (.slice o5 n5 c5) (.slice o6 n6 c6) ⟨[], [], []⟩ from ⟨none, 0, 0, none, 0, 0, none, 0, 0, h9, Lies.none _⟩)
  have HC2 := Lib.hid (HC1.out.below hb2)
  have HZ2 := Lib.hid (HZ1.out.below hb2)
  have HB2 := Lib.hid (below_then HB1.out (Nat.le_refl _) hb2)
  clear hW2 hb2 h7 h9 hk hk7 hk9 HC1 HZ1 HB1
  go_wp2_with fail
  go_loopw [7] (fun iv wr => ∃ (k : Nat) (acc : Con), k ≤ n ∧ iv = .int .i64 k ∧ Hid (((R.drop k).map (fun x => countsF x ⟨bp, bl, bw⟩)).foldl joinC acc = qc) ∧ Hid (Good acc (m * k)) ∧ Hid (∃ o4 n4 c4 o5 n5 c5 o6 n6 c6, C3 wr k9 (.slice o4 n4 c4) (.slice o5 n5 c5) (.slice o6 n6 c6) ∧ Lies wr (.slice o4 n4 c4) (.slice o5 n5 c5) (.slice o6 n6 c6) acc) ∧
    Hid (S3 wr k7 ⟨bp, bl, bw⟩) ∧ Hid (C3 wr w.heap.size (.slice none 0 0) (.slice none 0 0) (.slice none 0 0)) ∧ Hid (Z3 wr (w.heap.size + 1)) ∧ Hid (RowKit.Below w.heap.size w wr)) (fun iv _ => n - (intOf iv).toNat)
  case atStart => exact ⟨0, ⟨[], [], []⟩, by omega, rfl, Lib.hid HQ.out.symm, Lib.hid (by simpa using empty_good), H9, H7, HC2, HZ2, HB2⟩
  case round =>
    clear H7 H9 HC2 HZ2 HB2
    obtain ⟨k, acc, hk, rfl, hput, hgood, h9, h7, hc2, hz2, hl⟩ := hrel
    by_cases hlt : k < n
    · have hkr : k < R.length := by have := HN.out; omega
      obtain ⟨xb, xoff, hao, hbl, a0, a1, a2, a3, a4, a5, a6⟩ := (HV.out.below hl.out).get hkr
      cases hao
      have hlie := (HV.out.below hl.out).con R[k] (List.getElem_mem hkr)
      have hgx := HG.out R[k] (List.getElem_mem hkr)
      have hst := hput.out
      rw [List.drop_eq_getElem_cons hkr, List.map_cons, List.foldl_cons] at hst
      have hctx := fun W (h : RowKit.Below wr.heap.size wr W) => c_refcounts R[k] m ⟨bp, bl, bw⟩ W (hlie.below h) hgx (by omega)
      obtain ⟨cx, hcx⟩ : ∃ cx, cx = countsF R[k] ⟨bp, bl, bw⟩ := ⟨_, rfl⟩
      rw [← hcx] at hctx
      have hgc : Good cx m := by rw [hcx]; exact countsF_good hgx _
      simp only [← hcx] at hst
      obtain ⟨jx, hjx⟩ : ∃ jx, jx = joinC acc cx := ⟨_, rfl⟩
      rw [← hjx] at hst
      have HGJ := Lib.hid (show Good jx (m * (k + 1)) by rw [hjx, Nat.mul_succ]; exact joinC_good hgood.out hgc)
      have hmk : m * k ≤ 100 * 80 := Nat.mul_le_mul (by omega) (by omega)
      have HJN := Lib.hid (fun v W (hv : IsC acc v W) {v' : Value} (hv' : IsC cx v' W) (h : RowKit.Below wr.heap.size wr W) => show Calls Tryz.prog 80 #[v, v'] W (RetC jx W) from by rw [hjx]; exact c_refjoin (n := m * k) (n' := m) (HT.out.below (below_then hl.out (Nat.le_refl _) h)) hv hgood.out hv' hgc (by omega))
      have HST := Lib.hid hst
      clear hst hjx hcx hgc hgx hput
      generalize R[k] = x at *
      obtain ⟨xa, xb', xd, xc, ⟨fp, fl, fw⟩, xq⟩ := x
      obtain ⟨o1, n1, k1, e1⟩ := hlie.cells.slice
      obtain ⟨o2, n2, k2, e2⟩ := hlie.wipes.slice
      obtain ⟨o3, n3, k3, e3⟩ := hlie.sibs.slice
      simp only [] at e1 e2 e3
      subst e1 e2 e3
      unfold vR vS at hctx
      simp only [] at hctx a0 a1 a2 a3 a4 a5 a6
      have HCT := Lib.hid hctx
      clear hctx hlie
      obtain ⟨o4, n4, k4, o5, n5, k5, o6, n6, k6, hc9, hl9⟩ := h9.out
      have j0 : (0 : Int) ≤ (k : Int) := by omega
      have j1 : (k : Int) < (n : Int) := by omega
      have HA := Lib.hid (fun W (h : RowKit.Below wr.heap.size wr W) => show W.cell? ⟨xb, xoff + k * 7, none⟩ = some (.slice o1 n1 k1) ∧ W.cell? ⟨xb, xoff + k * 7 + 1, none⟩ = some (.slice o2 n2 k2) ∧ W.cell? ⟨xb, xoff + k * 7 + 2, none⟩ = some (.slice o3 n3 k3) ∧ W.cell? ⟨xb, xoff + k * 7 + 3, none⟩ = some (.int .i64 fp) ∧ W.cell? ⟨xb, xoff + k * 7 + 4, none⟩ = some (.int .i64 fl) ∧ W.cell? ⟨xb, xoff + k * 7 + 5, none⟩ = some (.int .i64 fw) ∧ W.cell? ⟨xb, xoff + k * 7 + 6, none⟩ = some (.bool xq) from
        ⟨(h.cell (p := ⟨xb, xoff + k * 7, none⟩) hbl).trans a0, (h.cell (p := ⟨xb, xoff + k * 7 + 1, none⟩) hbl).trans a1, (h.cell (p := ⟨xb, xoff + k * 7 + 2, none⟩) hbl).trans a2, (h.cell (p := ⟨xb, xoff + k * 7 + 3, none⟩) hbl).trans a3, (h.cell (p := ⟨xb, xoff + k * 7 + 4, none⟩) hbl).trans a4, (h.cell (p := ⟨xb, xoff + k * 7 + 5, none⟩) hbl).trans a5, (h.cell (p := ⟨xb, xoff + k * 7 + 6, none⟩) hbl).trans a6⟩)
      have HC9 := Lib.hid hc9
      have HAC := Lib.hid hl9
      clear a0 a1 a2 a3 a4 a5 a6 hbl hc9 hl9 h9
      go_wp2_with fail
      refine wp_region_told [] 8 [false, false, false, false, false, false, false, false, false, false, false, false, false, false, false, false, false, false, false, false, true, true, true, true, true, true, true, true, false, false]
        [sLit (.agg #[.slice o4 n4 k4, .slice o5 n5 k5, .slice o6 n6 k6]),
    sLit (.slice (some ⟨xb, xoff, none⟩) n cap),
    sLit (.int .i64 k),
    sLit (.pointer (some ⟨xb, xoff + k * 7, none⟩)),
    sLit (.agg #[.slice o1 n1 k1, .slice o2 n2 k2, .slice o3 n3 k3, .int .i64 fp, .int .i64 fl, .int .i64 fw, .bool xq]),
    sLit (.agg #[.int .i64 bp, .int .i64 bl, .int .i64 bw]),
    sOne (IsC (cx)) (fun _ _ _ h hb => h.below hb),
    sOne (IsC (jx)) (fun _ _ _ h hb => h.below hb)] (by kernel_rfl) (by kernel_rfl) (by kernel_rfl) (fun F hF => ?_)
      simp only [over, overL, Nat.reduceAdd] at hF
      obtain rfl := funext hF
      clear hF
      refine ⟨⟨?_, ?_, ?_, ?_, ?_, ?_, ?_, ?_, trivial⟩, ?_⟩
      · intro V W hb hd K hK _
        clear hd
        obtain ⟨-, s0, s1, s2, -⟩ := HC9.out.below hb
        go_wp2_with fail
        refine hK _ _ ?_ ?_ ?_ ?_
        · rfl
        · exact Below.refl _ _
        · exact rfl
        · trivial
      · intro V W hb hd K hK _
        clear hd
        go_wp2_with fail
        refine hK _ _ ?_ ?_ ?_ ?_
        · rfl
        · exact Below.refl _ _
        · exact rfl
        · trivial
      · intro V W hb hd K hK _
        clear hd
        go_wp2_with fail
        refine hK _ _ ?_ ?_ ?_ ?_
        · rfl
        · exact Below.refl _ _
        · exact rfl
        · trivial
      · intro V W hb hd K hK _
        have h1 : (V 21) = .slice (some ⟨xb, xoff, none⟩) n cap := hd 1 (by kernel_rfl)
        have h2 : (V 22) = .int .i64 k := hd 2 (by kernel_rfl)
        clear hd
        go_wp2_with fail
        refine hK _ _ ?_ ?_ ?_ ?_
        · rfl
        · exact Below.refl _ _
        · exact rfl
        · trivial
      · intro V W hb hd K hK _
        have h3 : (V 23) = .pointer (some ⟨xb, xoff + k * 7, none⟩) := hd 3 (by kernel_rfl)
        clear hd
        obtain ⟨a0, a1, a2, a3, a4, a5, a6⟩ := HA.out W hb
        go_wp2_with fail
        refine hK _ _ ?_ ?_ ?_ ?_
        · rfl
        · exact Below.refl _ _
        · exact rfl
        · trivial
      · intro V W hb hd K hK _
        clear hd
        obtain ⟨-, b0, b1, b2, -⟩ := h7.out.below hb
        simp only [] at b0 b1 b2
        go_wp2_with fail
        refine hK _ _ ?_ ?_ ?_ ?_
        · rfl
        · exact Below.refl _ _
        · exact rfl
        · trivial
      · intro V W hb hd K hK _
        have h4 : (V 24) = .agg #[.slice o1 n1 k1, .slice o2 n2 k2, .slice o3 n3 k3, .int .i64 fp, .int .i64 fl, .int .i64 fw, .bool xq] := hd 4 (by kernel_rfl)
        have h5 : (V 25) = .agg #[.int .i64 bp, .int .i64 bl, .int .i64 bw] := hd 5 (by kernel_rfl)
        clear hd
        go_wp2_with fail
        refine (HCT.out W hb).mono ?_
        rintro e w1 ⟨v1, rfl, hv1, hb1⟩
        go_wp2_with fail
        refine hK _ _ ?_ ?_ ?_ ?_
        · rfl
        · exact hb1
        · exact hv1
        · trivial
      · intro V W hb hd K hK _
        have h0 : (V 20) = .agg #[.slice o4 n4 k4, .slice o5 n5 k5, .slice o6 n6 k6] := hd 0 (by kernel_rfl)
        have h6 : IsC (cx) (V 26) W := hd 6 (by kernel_rfl)
        clear hd
        go_wp2_with fail
        refine (HJN.out _ W (HAC.out.below hb).is h6 hb).mono ?_
        rintro e w1 ⟨v1, rfl, hv1, hb1⟩
        go_wp2_with fail
        refine hK _ _ ?_ ?_ ?_ ?_
        · rfl
        · exact hb1
        · exact hv1
        · trivial
      · intro V W hb hd hap
        have h7_ : IsC (jx) (V 27) W := hd 7 (by decide)
        clear hd hap
        simp only [List.drop_succ_cons, List.drop_zero]
        obtain ⟨o7, n7, k7', o8, n8, k8', o9, n9, k9', e34, hlj⟩ := h7_.form
        have HLJ := Lib.hid hlj
        have HCW := Lib.hid (HC9.out.below hb)
        have H7W := Lib.hid (h7.out.below hb)
        have H2W := Lib.hid (hc2.out.below hb)
        have HZW := Lib.hid (hz2.out.below hb)
        have HBW := Lib.hid (below_then hl.out (Nat.le_refl _) hb)
        clear hlj hb h7_
        obtain ⟨-, s0, s1, s2, f0, f1, f2⟩ := HCW.out
        go_wp2_with fail
        go_roundw
        case rel => exact ⟨k + 1, jx, by omega, by go_num, HST, HGJ, Lib.hid ⟨_, _, _, _, _, _, _, _, _, c3_put HCW.out _ _ _, HLJ.out.plain3 (plain3 HCW.out _ _ _)⟩, Lib.hid (((H7W.out.other (by omega)).other (by omega)).other (by omega)), Lib.hid (((H2W.out.other (by omega)).other (by omega)).other (by omega)), Lib.hid (((HZW.out.other (by omega)).other (by omega)).other (by omega)), Lib.hid (c3_put_below HBW.out (by omega) _ _ _)⟩
        case measure => simp [intOf]; omega
    · obtain rfl : k = n := by omega
      have HAC := Lib.hid (show acc = qc by have h := hput.out; rw [List.drop_of_length_le (by have := HN.out; omega)] at h; simpa using h)
      obtain ⟨o4, n4, k4, o5, n5, k5, o6, n6, k6, hc9, hl9⟩ := h9.out
      have HC9 := Lib.hid hc9
      have HL9 := Lib.hid hl9
      have HB7 := h7
      have hS : wr.drew.cell? ⟨k9, 0, none⟩ = some (.slice o4 n4 k4) ∧ wr.drew.cell? ⟨k9, 1, none⟩ = some (.slice o5 n5 k5) ∧ wr.drew.cell? ⟨k9, 2, none⟩ = some (.slice o6 n6 k6) ∧ wr.drew.cell? ⟨k7, 0, none⟩ = some (.int .i64 bp) ∧ wr.drew.cell? ⟨k7, 1, none⟩ = some (.int .i64 bl) ∧ wr.drew.cell? ⟨k7, 2, none⟩ = some (.int .i64 bw) := ⟨hc9.c0, hc9.c1, hc9.c2, h7.out.c0, h7.out.c1, h7.out.c2⟩
      have HCd := Lib.hid (show C3 wr.drew (w.heap.size) (.slice none 0 0) (.slice none 0 0) (.slice none 0 0) from hc2.out.below (Below.refl _ _).drew)
      have HZd := Lib.hid (show Z3 wr.drew (w.heap.size + 1) from hz2.out.below (Below.refl _ _).drew)
      have HLd := Lib.hid (show Lies wr.drew (.slice o4 n4 k4) (.slice o5 n5 k5) (.slice o6 n6 k6) acc from hl9.below (Below.refl _ _).drew)
      have HBd := Lib.hid (show RowKit.Below w.heap.size w wr.drew from hl.out.drew)
      have hn1 : ¬ k9 = w.heap.size := by omega
      have hn2 : ¬ k7 = w.heap.size := by omega
      have hn3 : ¬ k9 = w.heap.size + 1 := by omega
      have hn4 : ¬ k7 = w.heap.size + 1 := by omega
      have hn5 : ¬ w.heap.size = k9 := by omega
      have hn6 : ¬ w.heap.size = k7 := by omega
      have hn7 : ¬ w.heap.size + 1 = k9 := by omega
      have hn8 : ¬ w.heap.size + 1 = k7 := by omega
      clear hc9 hl9 hput h9 hlt
      obtain ⟨-, t0, t1, t2, f0, f1, f2⟩ := HCd.out
      obtain ⟨-, z0, z1, z2, g0, g1, g2⟩ := HZd.out.s
      go_wp2_with fail
      obtain ⟨s0, s1, s2, s3, s4, s5⟩ := hS
      refine wp_region_any (by kernel_rfl) ?_
      show wpAny _ _ _ _ 4 _ _ wr.drew
      generalize wr.drew = wd at HCd HZd HLd HBd t0 t1 t2 f0 f1 f2 z0 z1 z2 g0 g1 g2 s0 s1 s2 s3 s4 s5 ⊢
      refine Picks.wpAny_go [0, 1] (by kernel_rfl) (by simp) ?_
      intro i hi
      simp only [List.mem_cons, List.not_mem_nil, or_false] at hi
      rcases hi with rfl | rfl
      · refine Picks.wpOp_of_list rfl (fun K hK _ => ?_)
        go_wp2_with fail
        refine hK _ _ ?_
        clear hK
        refine Picks.wpAny_go [1, 2] (by kernel_rfl) (by simp) ?_
        intro i hi
        simp only [List.mem_cons, List.not_mem_nil, or_false] at hi
        rcases hi with rfl | rfl
        · refine Picks.wpOp_of_list rfl (fun K hK _ => ?_)
          go_wp2_with fail
          refine hK _ _ ?_
          clear hK
          refine Picks.wpAny_go [2] (by kernel_rfl) (by simp) ?_
          intro i hi
          simp only [List.mem_cons, List.not_mem_nil, or_false] at hi
          rcases hi with rfl
          · refine Picks.wpOp_of_list rfl (fun K hK _ => ?_)
            go_wp2_with fail
            refine hK _ _ ?_
            clear hK
            refine Picks.wpAny_go [3] (by kernel_rfl) (by simp) ?_
            intro i hi
            simp only [List.mem_cons, List.not_mem_nil, or_false] at hi
            rcases hi with rfl
            · refine Picks.wpOp_of_list rfl (fun K hK _ => ?_)
              go_wp2_with fail
              refine hK _ _ ?_
              clear hK
              refine Picks.wpAny_end (by kernel_rfl) ?_
              go_wp2_with fail
              have hc3 := c3_put HCd.out (.slice o4 n4 k4) (.slice o5 n5 k5) (.slice o6 n6 k6)
              have hz3 := (((HZd.out.other (j := w.heap.size) (o := 0) (u := .slice o4 n4 k4) (by omega)).other (j := w.heap.size) (o := 1) (u := .slice o5 n5 k5) (by omega)).other (j := w.heap.size) (o := 2) (u := .slice o6 n6 k6) (by omega))
              obtain ⟨-, y0, y1, y2, -⟩ := s3_put hz3.s ⟨bp, bl, bw⟩
              obtain ⟨-, u0, u1, u2, -⟩ := ((hc3.other (j := w.heap.size + 1) (o := 0) (u := .int .i64 bp) (by omega)).other (j := w.heap.size + 1) (o := 1) (u := .int .i64 bl) (by omega)).other (j := w.heap.size + 1) (o := 2) (u := .int .i64 bw) (by omega)
              simp only [] at y0 y1 y2
              refine bodyPost_ret (v := .tuple #[.agg #[.slice o4 n4 k4, .slice o5 n5 k5, .slice o6 n6 k6], .agg #[.int .i64 bp, .int .i64 bl, .int .i64 bw]]) (by simp [results, Tryz.f28, go_sem, u0, u1, u2, y0, y1, y2]) rfl ?_
              refine ⟨_, rfl, ?_, s3_put_below (c3_put_below HBd.out (by omega) _ _ _) (by omega) _ _ _⟩
              rw [← HAC.out]
              exact (lies_zero (HLd.out.plain3 (plain3 HCd.out _ _ _)) hgood.out hz3 _ _ _).is
        · refine Picks.wpOp_of_list rfl (fun K hK _ => ?_)
          go_wp2_with fail
          refine hK _ _ ?_
          clear hK
          refine Picks.wpAny_go [1] (by kernel_rfl) (by simp) ?_
          intro i hi
          simp only [List.mem_cons, List.not_mem_nil, or_false] at hi
          rcases hi with rfl
          · refine Picks.wpOp_of_list rfl (fun K hK _ => ?_)
            go_wp2_with fail
            refine hK _ _ ?_
            clear hK
            refine Picks.wpAny_go [3] (by kernel_rfl) (by simp) ?_
            intro i hi
            simp only [List.mem_cons, List.not_mem_nil, or_false] at hi
            rcases hi with rfl
            · refine Picks.wpOp_of_list rfl (fun K hK _ => ?_)
              go_wp2_with fail
              refine hK _ _ ?_
              clear hK
              refine Picks.wpAny_end (by kernel_rfl) ?_
              go_wp2_with fail
              have hc3 := c3_put HCd.out (.slice o4 n4 k4) (.slice o5 n5 k5) (.slice o6 n6 k6)
              have hz3 := (((HZd.out.other (j := w.heap.size) (o := 0) (u := .slice o4 n4 k4) (by omega)).other (j := w.heap.size) (o := 1) (u := .slice o5 n5 k5) (by omega)).other (j := w.heap.size) (o := 2) (u := .slice o6 n6 k6) (by omega))
              obtain ⟨-, y0, y1, y2, -⟩ := s3_put hz3.s ⟨bp, bl, bw⟩
              obtain ⟨-, u0, u1, u2, -⟩ := ((hc3.other (j := w.heap.size + 1) (o := 0) (u := .int .i64 bp) (by omega)).other (j := w.heap.size + 1) (o := 1) (u := .int .i64 bl) (by omega)).other (j := w.heap.size + 1) (o := 2) (u := .int .i64 bw) (by omega)
              simp only [] at y0 y1 y2
              refine bodyPost_ret (v := .tuple #[.agg #[.slice o4 n4 k4, .slice o5 n5 k5, .slice o6 n6 k6], .agg #[.int .i64 bp, .int .i64 bl, .int .i64 bw]]) (by simp [results, Tryz.f28, go_sem, u0, u1, u2, y0, y1, y2]) rfl ?_
              refine ⟨_, rfl, ?_, s3_put_below (c3_put_below HBd.out (by omega) _ _ _) (by omega) _ _ _⟩
              rw [← HAC.out]
              exact (lies_zero (HLd.out.plain3 (plain3 HCd.out _ _ _)) hgood.out hz3 _ _ _).is
      · refine Picks.wpOp_of_list rfl (fun K hK _ => ?_)
        go_wp2_with fail
        refine hK _ _ ?_
        clear hK
        refine Picks.wpAny_go [0] (by kernel_rfl) (by simp) ?_
        intro i hi
        simp only [List.mem_cons, List.not_mem_nil, or_false] at hi
        rcases hi with rfl
        · refine Picks.wpOp_of_list rfl (fun K hK _ => ?_)
          go_wp2_with fail
          refine hK _ _ ?_
          clear hK
          refine Picks.wpAny_go [2] (by kernel_rfl) (by simp) ?_
          intro i hi
          simp only [List.mem_cons, List.not_mem_nil, or_false] at hi
          rcases hi with rfl
          · refine Picks.wpOp_of_list rfl (fun K hK _ => ?_)
            go_wp2_with fail
            refine hK _ _ ?_
            clear hK
            refine Picks.wpAny_go [3] (by kernel_rfl) (by simp) ?_
            intro i hi
            simp only [List.mem_cons, List.not_mem_nil, or_false] at hi
            rcases hi with rfl
            · refine Picks.wpOp_of_list rfl (fun K hK _ => ?_)
              go_wp2_with fail
              refine hK _ _ ?_
              clear hK
              refine Picks.wpAny_end (by kernel_rfl) ?_
              go_wp2_with fail
              have hc3 := c3_put HCd.out (.slice o4 n4 k4) (.slice o5 n5 k5) (.slice o6 n6 k6)
              have hz3 := (((HZd.out.other (j := w.heap.size) (o := 0) (u := .slice o4 n4 k4) (by omega)).other (j := w.heap.size) (o := 1) (u := .slice o5 n5 k5) (by omega)).other (j := w.heap.size) (o := 2) (u := .slice o6 n6 k6) (by omega))
              obtain ⟨-, y0, y1, y2, -⟩ := s3_put hz3.s ⟨bp, bl, bw⟩
              obtain ⟨-, u0, u1, u2, -⟩ := ((hc3.other (j := w.heap.size + 1) (o := 0) (u := .int .i64 bp) (by omega)).other (j := w.heap.size + 1) (o := 1) (u := .int .i64 bl) (by omega)).other (j := w.heap.size + 1) (o := 2) (u := .int .i64 bw) (by omega)
              simp only [] at y0 y1 y2
              refine bodyPost_ret (v := .tuple #[.agg #[.slice o4 n4 k4, .slice o5 n5 k5, .slice o6 n6 k6], .agg #[.int .i64 bp, .int .i64 bl, .int .i64 bw]]) (by simp [results, Tryz.f28, go_sem, u0, u1, u2, y0, y1, y2]) rfl ?_
              refine ⟨_, rfl, ?_, s3_put_below (c3_put_below HBd.out (by omega) _ _ _) (by omega) _ _ _⟩
              rw [← HAC.out]
              exact (lies_zero (HLd.out.plain3 (plain3 HCd.out _ _ _)) hgood.out hz3 _ _ _).is
end Go.Proofs.YtipoeigehabbmaaGreatDoor.Mut

/- The walk of the law's alive (layer 29). -/
set_option linter.unusedSimpArgs false
set_option linter.unusedVariables false
namespace Go.Proofs.YtipoeigehabbmaaGreatDoor.Mut
open Go.RowKit Go.Sort Go.Proofs.YtipoeigehabbmaaGreatDoor.Ord Go.Proofs.YtipoeigehabbmaaGreatDoor.RegInv
set_option linter.unusedSectionVars false
variable [Inhabited Lim]

/-- A literal row of replies. -/
theorem lit_replies (R : List Ry) (w : World) (t : TypeId) (hR : ∀ x ∈ R, Lies w x.a x.b x.d x.c) (hn : R.length ≤ maxLen) : YRow (w.alloc (.cells ⟨R.flatMap enY⟩ t)) (.slice (some ⟨w.heap.size, 0, none⟩) R.length R.length) R := by
  refine ⟨⟨_, R.length, rfl, Nat.le_refl _, hn, Or.inr ⟨_, _, rfl, by simp, fun i x hi j hj => ?_⟩⟩, fun x hx => ?_⟩
  · rw [cells_at (heap_alloc_new w _), Nat.zero_add]
    exact flatMap_get enY_len _ i x hi j hj
  · exact (hR x hx).below ((Below.refl _ w).alloc (Nat.le_refl _) _)
theorem BoxY.no {w : World} {k : Nat} {x : Ry} (h : BoxY w k x) : w.cell? ⟨k, 1, none⟩ = some (.int .i64 x.no) := (cells_at h 1).trans rfl
theorem BoxY.new (w : World) (x : Ry) : BoxY (w.alloc (.cells (enY x).toArray 81)) w.heap.size x := heap_alloc_new w _
theorem mergeU (a b d a' b' d' : Value) : mergeF [⟨1, 0, a, b, d, ⟨[mU], [], []⟩, ⟨0, 0, 0⟩⟩, ⟨2, 0, a', b', d', ⟨[], [], []⟩, ⟨2, 0, 0⟩⟩] = ⟨[], [], []⟩ := by kernel_rfl
theorem mergeU1 (a b d : Value) : mergeF [⟨1, 0, a, b, d, ⟨[mU], [], []⟩, ⟨0, 0, 0⟩⟩] = ⟨[mU], [], []⟩ := by kernel_rfl
theorem floorU (a b d a' b' d' : Value) : floorF [⟨1, 0, a, b, d, ⟨[mU], [], []⟩, ⟨0, 0, 0⟩⟩, ⟨2, 0, a', b', d', ⟨[], [], []⟩, ⟨2, 0, 0⟩⟩] = ⟨2, 0, 0⟩ := by kernel_rfl

set_option maxHeartbeats 8000000 in
set_option maxRecDepth 100000 in
theorem alive29_any (w : World) (hT : Tabs w) : Calls Tryz.prog 35 #[] w (RetB true w) := by
  have HT := Lib.hid hT
  clear hT
  have hq2 := guardT_run .eql
  have hq1 := eqlT_run ⟨2, 0, 0⟩ ⟨2, 0, 0⟩ true (by kernel_rfl)
  simp only [] at hq1
  go_enter Tryz.func35, Tryz.ntmps35
  go_upto_region 2 with fail
  obtain ⟨W0, hW0⟩ : ∃ W0, W0 = w.alloc (.cells #[.int .i64 1, .int .i64 1, .string ⟨#[107]⟩, .string ⟨#[]⟩, .string ⟨#[118]⟩, .int .i64 0, .int .i64 1, .int .i64 0, .int .i64 0, .slice none 0 0] 35) := ⟨_, rfl⟩
  rw [← hW0]
  have hb0 : RowKit.Below w.heap.size w W0 := by rw [hW0]; exact (Below.refl _ _).alloc (Nat.le_refl _) _
  have hA0 : A0 W0 w.heap.size (mU, .slice none 0 0) := by rw [hW0]; exact A0.of (At.new w 35 (mU, .slice none 0 0))
  have HA0 := Lib.hid hA0
  have HB0 := Lib.hid hb0
  obtain ⟨n0, hn0⟩ : ∃ n0, n0 = w.heap.size := ⟨_, rfl⟩
  rw [← hn0] at HA0 ⊢
  clear hW0 hb0 hA0 hn0
  obtain ⟨hm, m0, m1, m2, m3, m4, m5, m6, m7, m8, m9⟩ := HA0.out
  have m0' : W0.cell? ⟨n0, 0, none⟩ = some (.int .i64 1) := m0
  have m1' : W0.cell? ⟨n0, 1, none⟩ = some (.int .i64 1) := m1
  have m2' : W0.cell? ⟨n0, 2, none⟩ = some (.string ⟨#[107]⟩) := m2
  have m3' : W0.cell? ⟨n0, 3, none⟩ = some (.string ⟨#[]⟩) := m3
  have m4' : W0.cell? ⟨n0, 4, none⟩ = some (.string ⟨#[118]⟩) := m4
  have m5' : W0.cell? ⟨n0, 5, none⟩ = some (.int .i64 0) := m5
  have m6' : W0.cell? ⟨n0, 6, none⟩ = some (.int .i64 1) := m6
  have m7' : W0.cell? ⟨n0, 7, none⟩ = some (.int .i64 0) := m7
  have m8' : W0.cell? ⟨n0, 8, none⟩ = some (.int .i64 0) := m8
  have m9' : W0.cell? ⟨n0, 9, none⟩ = some (.slice none 0 0) := m9
  clear m0 m1 m2 m3 m4 m5 m6 m7 m8 m9
  go_wp2_with fail
  have hof := fun (V : World) (hT : Tabs V) => c_of (hT.below ((Below.refl _ V).alloc (Nat.le_refl _) _)) (show Reads _ _ [mU] from ⟨_, rfl, lit_rows25 [((mU, .slice none 0 0) : Ro)] V 35 (fun x hx => by rw [List.mem_singleton.1 hx]; exact ⟨rfl, rfl⟩) (by decide)⟩) (by decide) (fun m hm => by rw [List.mem_singleton.1 hm]; exact small_right rightU)
  rw [leftU] at hof
  have HOF := Lib.hid hof
  clear hof
  refine (HOF.out W0 (HT.out.below HB0.out)).mono ?_
  rintro e w1 ⟨vv, rfl, hc, hb1⟩
  obtain ⟨o1, p1, q1, o2, p2, q2, o3, p3, q3, rfl, hl⟩ := hc.form
  have hb01 := below_then ((Below.refl _ W0).alloc (Nat.le_refl _) _) (Nat.le_refl _) hb1
  have HB1 := Lib.hid (below_then HB0.out (Nat.le_refl _) hb01)
  have HL1 := Lib.hid hl
  clear hc hb1 hl hb01 HB0 HA0 HOF m0' m1' m2' m3' m4' m5' m6' m7' m8' m9' hm
  go_upto_region 3 with fail
  obtain ⟨W3, hW3⟩ : ∃ W3, W3 = (w1.alloc (.cells #[.int .i64 1, .int .i64 0, .slice o1 p1 q1, .slice o2 p2 q2, .slice o3 p3 q3, .int .i64 0, .int .i64 0, .int .i64 0] 81)).alloc (.cells #[.int .i64 2, .int .i64 0, .slice none 0 0, .slice none 0 0, .slice none 0 0, .int .i64 2, .int .i64 0, .int .i64 0] 81) := ⟨_, rfl⟩
  rw [← hW3]
  have hb3 : RowKit.Below w1.heap.size w1 W3 := by rw [hW3]; exact ((Below.refl _ _).alloc (Nat.le_refl _) _).alloc (by simp) _
  obtain ⟨X, hX⟩ : ∃ X : Ry, X = ⟨1, 0, .slice o1 p1 q1, .slice o2 p2 q2, .slice o3 p3 q3, ⟨[mU], [], []⟩, ⟨0, 0, 0⟩⟩ := ⟨_, rfl⟩
  obtain ⟨Y, hY⟩ : ∃ Y : Ry, Y = ⟨2, 0, .slice none 0 0, .slice none 0 0, .slice none 0 0, ⟨[], [], []⟩, ⟨2, 0, 0⟩⟩ := ⟨_, rfl⟩
  have x3 : BoxY W3 w1.heap.size X := by
    rw [hW3, hX]
    exact (BoxY.new w1 ⟨1, 0, .slice o1 p1 q1, .slice o2 p2 q2, .slice o3 p3 q3, ⟨[mU], [], []⟩, ⟨0, 0, 0⟩⟩).below ((Below.refl _ _).alloc (Nat.le_refl _) _)
  have y3 : BoxY W3 (w1.heap.size + 1) Y := by
    rw [hW3, hY]
    have := BoxY.new (w1.alloc (.cells #[.int .i64 1, .int .i64 0, .slice o1 p1 q1, .slice o2 p2 q2, .slice o3 p3 q3, .int .i64 0, .int .i64 0, .int .i64 0] 81)) ⟨2, 0, .slice none 0 0, .slice none 0 0, .slice none 0 0, ⟨[], [], []⟩, ⟨2, 0, 0⟩⟩
    rwa [World.size_alloc] at this
  obtain ⟨n2, hn2⟩ : ∃ n2, n2 = w1.heap.size := ⟨_, rfl⟩
  rw [← hn2] at x3 y3 ⊢
  have HX3 := Lib.hid x3
  have HY3 := Lib.hid y3
  have HL3 := Lib.hid (HL1.out.below hb3)
  have HB3 := Lib.hid (below_then HB1.out (Nat.le_refl _) hb3)
  clear hW3 hb3 x3 y3 hn2 HB1 HL1
  obtain ⟨x0, x2, x3, x4, x5, x6, x7⟩ := HX3.out.cells
  have x1 := HX3.out.no
  obtain ⟨y0, y2, y3, y4, y5, y6, y7⟩ := HY3.out.cells
  have y1 := HY3.out.no
  have HXE := Lib.hid hX
  have HYE := Lib.hid hY
  rw [hX] at x0 x1 x2 x3 x4 x5 x6 x7
  rw [hY] at y0 y1 y2 y3 y4 y5 y6 y7
  simp only [] at x0 x1 x2 x3 x4 x5 x6 x7 y0 y1 y2 y3 y4 y5 y6 y7
  clear hX hY
  go_wp2_with fail
  have hR1 : ∀ V : World, Lies V (.slice o1 p1 q1) (.slice o2 p2 q2) (.slice o3 p3 q3) ⟨[mU], [], []⟩ → YRow (V.alloc (.cells ⟨[(⟨1, 0, .slice o1 p1 q1, .slice o2 p2 q2, .slice o3 p3 q3, ⟨[mU], [], []⟩, ⟨0, 0, 0⟩⟩ : Ry), ⟨2, 0, .slice none 0 0, .slice none 0 0, .slice none 0 0, ⟨[], [], []⟩, ⟨2, 0, 0⟩⟩].flatMap enY⟩ 81)) (.slice (some ⟨V.heap.size, 0, none⟩) 2 2) _ := fun V hV => lit_replies _ V 81 (fun x hx => by
    simp only [List.mem_cons, List.not_mem_nil, or_false] at hx
    rcases hx with rfl | rfl
    · exact hV
    · exact Lies.none _) (by simp [maxLen])
  have HR1 := Lib.hid hR1
  clear hR1
  have hcb := merge_any _ _ 1 _ (HT.out.below (below_then HB3.out (Nat.le_refl _) ((Below.refl _ W3).alloc (Nat.le_refl _) _))) (HR1.out W3 HL3.out) (fun x hx => by
    simp only [List.mem_cons, List.not_mem_nil, or_false] at hx
    rcases hx with rfl | rfl
    · exact goodU
    · exact empty_good.more (Nat.zero_le 1)) (by simp) (by decide)
  rw [mergeU] at hcb
  refine hcb.mono ?_
  rintro e w2 ⟨v2, rfl, hc2, hb⟩
  obtain ⟨o4, p4, q4, o5, p5, q5, o6, p6, q6, rfl, hl4⟩ := hc2.form
  have hb12 := below_then ((Below.refl _ W3).alloc (Nat.le_refl _) _) (Nat.le_refl _) hb
  have HB4 := Lib.hid (below_then HB3.out (Nat.le_refl _) hb12)
  have HX4 := Lib.hid (HX3.out.below hb12)
  have HY4 := Lib.hid (HY3.out.below hb12)
  have HL4 := Lib.hid (HL3.out.below hb12)
  have HL5 := Lib.hid hl4
  clear hcb hc2 hb hl4 hb12 HB3 HX3 HY3 HL3 x0 x1 x2 x3 x4 x5 x6 x7 y0 y1 y2 y3 y4 y5 y6 y7
  go_wp2_with fail
  refine (c_all (n := 1) HL5.out.is (empty_good.more (by decide)) (by decide)).mono ?_
  rintro e w7 ⟨g, cap, R, rfl, -, hm, hb⟩
  rw [allU0] at hm
  have e1 : R.length = 0 := by have := congrArg List.length hm; simpa using this
  rw [e1]
  have HB7 := Lib.hid (below_then HB4.out (Nat.le_refl _) hb)
  have HX7 := Lib.hid (HX4.out.below hb)
  have HY7 := Lib.hid (HY4.out.below hb)
  have HL7 := Lib.hid (HL4.out.below hb)
  clear hm hb e1 HB4 HX4 HY4 HL4 HL5
  obtain ⟨x0, x2, x3, x4, x5, x6, x7⟩ := HX7.out.cells
  have x1 := HX7.out.no
  rw [HXE.out] at x0 x1 x2 x3 x4 x5 x6 x7
  simp only [] at x0 x1 x2 x3 x4 x5 x6 x7
  go_wp2_with fail
  have hR2 := lit_replies [(⟨1, 0, .slice o1 p1 q1, .slice o2 p2 q2, .slice o3 p3 q3, ⟨[mU], [], []⟩, ⟨0, 0, 0⟩⟩ : Ry)] w7 81 (fun x hx => by
    rw [List.mem_singleton.1 hx]
    exact HL7.out) (by simp [maxLen])
  have hcb := merge_any _ _ 1 _ (HT.out.below (below_then HB7.out (Nat.le_refl _) ((Below.refl _ w7).alloc (Nat.le_refl _) _))) hR2 (fun x hx => by
    rw [List.mem_singleton.1 hx]
    exact goodU) (by simp) (by decide)
  rw [mergeU1] at hcb
  refine hcb.mono ?_
  rintro e w8 ⟨v2, rfl, hc2, hb⟩
  obtain ⟨o4, p4, q4, o5, p5, q5, o6, p6, q6, rfl, hl4⟩ := hc2.form
  have hb12 := below_then ((Below.refl _ w7).alloc (Nat.le_refl _) _) (Nat.le_refl _) hb
  have HB8 := Lib.hid (below_then HB7.out (Nat.le_refl _) hb12)
  have HX8 := Lib.hid (HX7.out.below hb12)
  have HY8 := Lib.hid (HY7.out.below hb12)
  have HL8 := Lib.hid (HL7.out.below hb12)
  have HL5 := Lib.hid hl4
  clear hcb hc2 hb hl4 hb12 hR2 HB7 HX7 HY7 HL7 x0 x1 x2 x3 x4 x5 x6 x7
  go_wp2_with fail
  refine (c_all (n := 1) HL5.out.is goodU (by decide)).mono ?_
  rintro e w9 ⟨g2, cap2, R2, rfl, -, hm, hb⟩
  rw [allU] at hm
  have e1 : R2.length = 1 := by have := congrArg List.length hm; simpa using this
  rw [e1]
  have HB9 := Lib.hid (below_then HB8.out (Nat.le_refl _) hb)
  have HX9 := Lib.hid (HX8.out.below hb)
  have HY9 := Lib.hid (HY8.out.below hb)
  have HL9 := Lib.hid (HL8.out.below hb)
  clear hm hb e1 HB8 HX8 HY8 HL8 HL5
  obtain ⟨x0, x2, x3, x4, x5, x6, x7⟩ := HX9.out.cells
  have x1 := HX9.out.no
  rw [HXE.out] at x0 x1 x2 x3 x4 x5 x6 x7
  simp only [] at x0 x1 x2 x3 x4 x5 x6 x7
  obtain ⟨y0, y2, y3, y4, y5, y6, y7⟩ := HY9.out.cells
  have y1 := HY9.out.no
  rw [HYE.out] at y0 y1 y2 y3 y4 y5 y6 y7
  simp only [] at y0 y1 y2 y3 y4 y5 y6 y7
  go_wp2_with fail
  have hfl := floor_any _ _ _ (HR1.out w9 HL9.out) (by simp)
  rw [floorU] at hfl
  unfold RetS vS at hfl
  refine hfl.mono ?_
  rintro e w10 ⟨rfl, hb⟩
  have HB10 := Lib.hid (below_then HB9.out (Nat.le_refl _) (below_then ((Below.refl _ w9).alloc (Nat.le_refl _) _) (Nat.le_refl _) hb))
  clear hfl hb HB9 x0 x1 x2 x3 x4 x5 x6 x7 y0 y1 y2 y3 y4 y5 y6 y7
  go_wp2_with fail
  go_ret
  exact ⟨rfl, HB10.out⟩
end Go.Proofs.YtipoeigehabbmaaGreatDoor.Mut
